/- entrepotref09: Pack. -/
import Derived.Test.YtakjiicnbocjeaaIdDoesM16
import Derived.Test.YtakjiicnbocjeaaIdDoesM24
import Derived.Test.YtakjiicnbocjeaaIdDoesM26
namespace Go.Proofs.Ytakjiicnbocjeaa
open Go.RowKit Go.Maps
/-- No client is kept that says nothing. -/
def TPres (A : Tbl) : Prop := ∀ p ∈ A, 1 < p.2.1 ∨ 0 < p.2.2.length
theorem pres_yes {A : Tbl} {c : Int} (h : 1 < (cli A c).1 ∨ 0 < (cli A c).2.length) : getS A c = some (cli A c) := by
  unfold cli at *
  cases e : getS A c with
  | none => rw [e] at h; simp at h
  | some x => rfl
theorem pres_no {A : Tbl} {c : Int} (hp : TPres A) (h : ¬ (1 < (cli A c).1 ∨ 0 < (cli A c).2.length)) : getS A c = none := by
  unfold cli at h
  cases e : getS A c with
  | none => rfl
  | some x => rw [e] at h; exact absurd (hp _ (getS_mem e)) h
def preL (A : Tbl) (c : Int) : Tbl := A.filter fun p => decide (p.1 < c)
theorem preL_yes {A : Tbl} {c : Int} (h : Rise A) (hc : 1 < (cli A c).1 ∨ 0 < (cli A c).2.length) : preL A (c + 1) = preL A c ++ [(c, cli A c)] := by
  unfold preL; rw [filter_succ h c, pres_yes hc]
theorem preL_no {A : Tbl} {c : Int} (h : Rise A) (hp : TPres A) (hc : ¬ (1 < (cli A c).1 ∨ 0 < (cli A c).2.length)) : preL A (c + 1) = preL A c := by
  unfold preL; rw [filter_succ h c, pres_no hp hc]; simp
theorem preL_all {A : Tbl} (h : ∀ p ∈ A, isCl p.1 = true) : preL A 64 = A := filter_all fun p hp => by have := h p hp; unfold isCl at this; simp at this; omega
theorem preL_zero {A : Tbl} (h : ∀ p ∈ A, isCl p.1 = true) : preL A 0 = [] := by
  unfold preL; rw [List.filter_eq_nil_iff]; intro p hp; have := h p hp; unfold isCl at this; simp at this; simp; omega
theorem row_cells {w : World} {base len k : Nat} {a : Option Addr} {R : Rows} (h : w.ownsRow base 86 7 (.slice a len k) len (rowcs R)) (hp : 0 < len) :
    ∃ gp, a = some ⟨gp, 0, none⟩ ∧ len ≤ k ∧ ∀ (j : Nat) (q : Int × RowV), R[j]? = some q → ∀ (f : Nat) (u : Value), (rowc q)[f]? = some u → w.cell? ⟨gp, j * 7 + f, none⟩ = some u := by
  rcases h.2 with ⟨e, e0⟩ | ⟨gp, c, cur, e, _, _, hle, _⟩
  · omega
  · injection e with e1 _ e3
    subst e1; subst e3
    refine ⟨gp, rfl, hle, fun j q hq f u hu => ?_⟩
    obtain ⟨ad, e, hc⟩ := (Rd.own h).at_ hp (rowcs_at hq f u hu)
    cases e
    have : (⟨gp, 0, none⟩ : Addr).add (j * 7 + f) = ⟨gp, j * 7 + f, none⟩ := by unfold Addr.add; split <;> simp_all
    rw [this] at hc; exact hc
set_option maxRecDepth 100000 in
set_option maxHeartbeats 4000000 in
theorem rPack (w : World) (g : Nat) (TS : Nat → Prop) (A : Tbl) (h : RT w g TS A) (hR : Rise A) (hp : TPres A) (hk : TOk A) (h64 : A.length ≤ 64) :
    Calls Try.prog 46 #[.pointer (some ⟨g, 0, none⟩)] w fun e w' =>
      Below w.heap.size w w' ∧ ∃ v, e = .returned v ∧ w'.ownsRow w.heap.size 5 1 v (mkAll ([], false) (tabC A)).1.length (u8s (mkAll ([], false) (tabC A)).1) := by
  have HH := Lib.hid h; have HR := Lib.hid hR; have HP := Lib.hid hp; have HK := Lib.hid hk; have H64 := Lib.hid h64
  have hgw := h.lt g h.own
  have HTL : Hid (∀ b, TS b → b ≠ w.heap.size) := Lib.hid (fun b hb e => by have := h.lt b hb; omega)
  obtain ⟨sF, hsF⟩ : ∃ sF, mkAll ([], false) (tabC A) = sF := ⟨_, rfl⟩
  rw [hsF]
  have HSF := Lib.hid hsF
  clear h hR hp hk h64 hsF
  go_enter Try.func46, Try.ntmps46
  go_wp2_with fail
  have hK0 := RK.new w
  have hH0 := HH.out.fr ((Fr.refl (fun _ => False) w).alloc (.cells #[.slice none 0 0, .bool false] 122)) (fun _ _ h => h)
  have hF0 : Fr (fun b => w.heap.size ≤ b) w (w.alloc (.cells #[.slice none 0 0, .bool false] 122)) := (Fr.refl _ w).alloc _
  have hs0 : w.heap.size ≤ (w.alloc (.cells #[.slice none 0 0, .bool false] 122)).heap.size := by simp
  obtain ⟨W0, hW0⟩ : ∃ W0, w.alloc (.cells #[.slice none 0 0, .bool false] 122) = W0 := ⟨_, rfl⟩
  rw [hW0] at hK0 hH0 hF0 hs0 ⊢
  have HK0 := Lib.hid hK0; have HH0 := Lib.hid hH0; have HF0 := Lib.hid hF0; have HS0 := Lib.hid hs0
  clear hW0 hK0 hH0 hF0 hs0 HH
  obtain ⟨B, hB⟩ : ∃ B, w.heap.size = B := ⟨_, rfl⟩
  rw [hB] at HK0 HTL HF0 HS0
  have HB := Lib.hid hB
  clear hB
  have hkz : Hid (preL A 0 = []) := Lib.hid (preL_zero HK.out.keys)
  go_loopw [4, 5] (fun n c wr => ∃ k : Nat, k ≤ 64 ∧ c = .int .i64 k ∧ n = .int .i64 ((preL A k).length : Int) ∧ wr = W0) (fun _ c _ => 64 - (intOf c).toNat)
  case atStart => exact ⟨0, Nat.zero_le _, rfl, by rw [show ((0 : Nat) : Int) = 0 from rfl, hkz.out]; rfl, rfl⟩
  case round =>
    obtain ⟨k, hk, rfl, rfl, rfl⟩ := hrel
    by_cases hlt : k < 64
    · obtain ⟨mk, a, cap, c1, c2, c3, c4, c5⟩ := HH0.out.at_ k hlt
      have hMk := Lib.hid (rMark wr g TS A k HH0.out hlt)
      have hyes := Lib.hid (fun h => preL_yes (A := A) (c := k) HR.out h)
      have hno := Lib.hid (fun h => preL_no (A := A) (c := k) HR.out HP.out h)
      have hpl : Hid (((preL A k).length : Int) ≤ 64) := Lib.hid (by have := List.length_filter_le (fun p : Int × (Int × Rows) => decide (p.1 < (k : Int))) A; have := H64.out; unfold preL; omega)
      obtain ⟨M, hM⟩ : ∃ M, (cli A k).1 = M := ⟨_, rfl⟩
      obtain ⟨L, hL⟩ : ∃ L, (cli A k).2.length = L := ⟨_, rfl⟩
      obtain ⟨N, hN⟩ : ∃ N, (preL A k).length = N := ⟨_, rfl⟩
      rw [hM] at hMk
      rw [hL] at c3
      rw [hN] at hpl ⊢
      have hNN := hpl.out
      have HM := Lib.hid hM; have HL := Lib.hid hL; have HN := Lib.hid hN
      clear c1 c2 c4 c5 hM hL hN
      by_cases h1 : 1 < M
      · go_wp2_with (go_at_call 40; refine hMk.out.mono ?_; rintro e w' ⟨rfl, rfl⟩)
        go_roundw
        case rel => exact ⟨k + 1, by omega, by go_num, by rw [show ((k + 1 : Nat) : Int) = (k : Int) + 1 by omega, hyes.out (.inl (by rw [HM.out]; exact h1))]; simp [HN.out], by trivial⟩
        case measure => simp [intOf]; omega
      · by_cases h2 : 0 < (L : Int)
        · go_wp2_with (go_at_call 40; refine hMk.out.mono ?_; rintro e w' ⟨rfl, rfl⟩)
          go_roundw
          case rel => exact ⟨k + 1, by omega, by go_num, by rw [show ((k + 1 : Nat) : Int) = (k : Int) + 1 by omega, hyes.out (.inr (by rw [HL.out]; omega))]; simp [HN.out], by trivial⟩
          case measure => simp [intOf]; omega
        · go_wp2_with (go_at_call 40; refine hMk.out.mono ?_; rintro e w' ⟨rfl, rfl⟩)
          go_roundw
          case rel => exact ⟨k + 1, by omega, by go_num, by rw [show ((k + 1 : Nat) : Int) = (k : Int) + 1 by omega, hno.out (by rw [HL.out, HM.out]; omega)]; rw [HN.out], by trivial⟩
          case measure => simp [intOf]; omega
    · obtain rfl : k = 64 := by omega
      rw [show ((64 : Nat) : Int) = 64 from rfl, preL_all HK.out.keys]
      have hq0 := rMNum wr B B _ (A.length : Int) HK0.out (okLen (by have := H64.out; omega)) HS0.out
      obtain ⟨S0, hS0⟩ : ∃ S0, mkAll ([], false) [numB (A.length : Int)] = S0 := ⟨_, rfl⟩
      have hS0' : mkQ ([], false) (numB (A.length : Int)) = S0 := hS0
      rw [hS0'] at hq0
      have HQ0 := Lib.hid hq0; have HSS := Lib.hid hS0
      clear hkz hq0 hS0 hS0'
      simp only [HB.out]
      go_wp2_with fail
      refine HQ0.out.mono ?_
      rintro e w1 ⟨⟨v1, rfl⟩, hk1, hf1⟩
      have HK1 := Lib.hid hk1
      have HH1 := Lib.hid (HH0.out.fr hf1 (fun b hb e => HTL.out b hb e))
      have HF1 := Lib.hid (HF0.out.trans' hf1 (fun b _ e => by omega))
      have HS1 : Hid (B ≤ w1.heap.size) := Lib.hid (Nat.le_trans HS0.out hf1.size)
      clear hk1 hf1
      go_wp2_with fail
      go_loopw [6] (fun c wx => ∃ k : Nat, k ≤ 64 ∧ c = .int .i64 k ∧ RK wx B B (mkAll S0 ((preL A k).flatMap cliC)) ∧ RT wx g TS A ∧ Fr (fun b => B ≤ b) w wx ∧ B ≤ wx.heap.size) (fun c _ => 64 - (intOf c).toNat)
      case atStart => exact ⟨0, Nat.zero_le _, rfl, by rw [show ((0 : Nat) : Int) = 0 from rfl, preL_zero HK.out.keys]; exact HK1.out, HH1.out, HF1.out, HS1.out⟩
      case round =>
        obtain ⟨k, hk, rfl, hKr, hHr, hFr, hSr⟩ := hrel
        have HKr := Lib.hid hKr; have HHr := Lib.hid hHr; have HFr := Lib.hid hFr; have HSr := Lib.hid hSr
        clear hKr hHr hFr hSr
        by_cases hlt : k < 64
        · obtain ⟨mk, a, cap, c1, c2, c3, c4, c5⟩ := HHr.out.at_ k hlt
          have hMk := Lib.hid (fun w' h => rMark w' g TS A k h hlt)
          have hyes := Lib.hid (fun h => preL_yes (A := A) (c := k) HR.out h)
          have hno := Lib.hid (fun h => preL_no (A := A) (c := k) HR.out HP.out h)
          obtain ⟨CL, hCL⟩ : ∃ CL, cli A k = CL := ⟨_, rfl⟩
          have hmem : (1 < CL.1 ∨ 0 < CL.2.length) → ((k : Int), CL) ∈ A := fun h => getS_mem (by rw [← hCL] at h ⊢; exact pres_yes h)
          rw [hCL] at hMk hyes hno c3
          obtain ⟨M, R⟩ := CL
          dsimp only at hMk hyes hno hmem c3
          obtain ⟨L, hL⟩ : ∃ L, R.length = L := ⟨_, rfl⟩
          rw [hL] at hyes hno hmem c3
          have HCL := Lib.hid hCL; have HL := Lib.hid hL; have HMEM := Lib.hid hmem
          obtain ⟨s1, hs1⟩ : ∃ s1, mkAll S0 ((preL A k).flatMap cliC) = s1 := ⟨_, rfl⟩
          rw [hs1] at HKr
          have HS1 := Lib.hid hs1
          clear c1 c2 c4 c5 hCL hL hmem hs1
          by_cases h3 : 1 < M ∨ 0 < L
          · have hin := HMEM.out h3
            have hse : Hid (mkAll S0 ((preL A ((k + 1 : Nat) : Int)).flatMap cliC) = mkAll s1 (cliC ((k : Int), (M, R)))) := Lib.hid (by
              rw [show ((k + 1 : Nat) : Int) = (k : Int) + 1 by omega, hyes.out h3, List.flatMap_append, mkAll_app, HS1.out]; simp)
            have hmk := HK.out.marks _ hin
            have hl8 := HK.out.lens _ hin
            have hnu := HK.out.nums _ hin
            have hrw := HK.out.rows _ hin
            dsimp only at hmk hl8 hnu hrw
            rw [HL.out] at hl8
            have hl8I : (L : Int) ≤ 128 := by omega
            have HNU := Lib.hid hnu; have HRW := Lib.hid hrw; have HMKB := Lib.hid hmk
            have hcond : ¬ M ≤ 1 ∨ (M ≤ 1 ∧ ((L : Int) == 0) = false) := by
              by_cases h : M ≤ 1
              · exact .inr ⟨h, by simp; omega⟩
              · exact .inl h
            clear hin hmk hnu hrw h3 hno hyes HMEM
            rcases hcond with hc | ⟨hc, hc2⟩
            all_goals
              go_wp2_with (go_at_call 40; refine (hMk.out _ HHr.out).mono ?_; rintro e w' ⟨rfl, rfl⟩)
              have hBr := HSr.out
              go_wp2_with fail
              refine (rMNum _ B B _ (k : Int) HKr.out (okCl (by unfold isCl; simp; omega)) hBr).mono ?_
              rintro e wa ⟨⟨vv, rfl⟩, hkx, hfx⟩
              have HKa := Lib.hid hkx; have HHa := Lib.hid (HHr.out.fr hfx (fun b hb e => HTL.out b hb e)); have HFa := Lib.hid (HFr.out.trans' hfx (fun b _ e => by omega)); have hBa : B ≤ wa.heap.size := Nat.le_trans hBr hfx.size
              clear hkx hfx
              go_wp2_with fail
              refine (hMk.out _ HHa.out).mono ?_
              rintro e w' ⟨rfl, rfl⟩
              go_wp2_with fail
              refine (rMNum _ B B _ M HKa.out (okMk HMKB.out) hBa).mono ?_
              rintro e wb ⟨⟨vv, rfl⟩, hkx, hfx⟩
              have HKb := Lib.hid hkx; have HHb := Lib.hid (HHa.out.fr hfx (fun b hb e => HTL.out b hb e)); have HFb := Lib.hid (HFa.out.trans' hfx (fun b _ e => by omega)); have hBb : B ≤ wb.heap.size := Nat.le_trans hBa hfx.size
              clear hkx hfx
              obtain ⟨mk2, a2, cap2, -, -, d3, -, -⟩ := HHb.out.at_ k hlt
              rw [HCL.out] at d3
              dsimp only at d3
              rw [HL.out] at d3
              go_wp2_with fail
              refine (rMNum _ B B _ (L : Int) HKb.out (okLen (by omega)) hBb).mono ?_
              rintro e wc ⟨⟨vv, rfl⟩, hkx, hfx⟩
              have HKc := Lib.hid hkx; have HHc := Lib.hid (HHb.out.fr hfx (fun b hb e => HTL.out b hb e)); have HFc := Lib.hid (HFb.out.trans' hfx (fun b _ e => by omega)); have hBc : B ≤ wc.heap.size := Nat.le_trans hBb hfx.size
              clear hkx hfx
              clear d3 c3
              obtain ⟨s2, hs2⟩ : ∃ s2, mkQ (mkQ (mkQ s1 (numB (k : Int))) (numB M)) (numB (L : Int)) = s2 := ⟨_, rfl⟩
              rw [hs2] at HKc
              have hse2 : Hid (mkAll s1 (cliC ((k : Int), (M, R))) = mkAll s2 (rowsC R)) := Lib.hid (by
                unfold cliC
                rw [mkAll_app]
                dsimp only
                rw [HL.out, ← hs2]; rfl)
              clear hs2 HKa HKb HHa HHb HFa HFb hBa hBb
              go_wp2_with fail
              go_loopw [7] (fun i wx => ∃ j : Nat, j ≤ L ∧ i = .int .i64 j ∧ RK wx B B (mkAll s2 (rowsC (R.take j))) ∧ RT wx g TS A ∧ Fr (fun b => B ≤ b) w wx ∧ B ≤ wx.heap.size) (fun i _ => L - (intOf i).toNat)
              case atStart => exact ⟨0, Nat.zero_le _, rfl, HKc.out, HHc.out, HFc.out, hBc⟩
              case round =>
                obtain ⟨j, hj, rfl, hKj, hHj, hFj, hBj⟩ := hrel
                have HKj := Lib.hid hKj; have HHj := Lib.hid hHj; have HFj := Lib.hid hFj
                clear hKj hHj hFj HKc HHc HFc
                obtain ⟨mk2, a2, cap2, -, -, d3, d4, -⟩ := HHj.out.at_ k hlt
                rw [HCL.out] at d3 d4
                dsimp only at d3 d4
                rw [HL.out] at d3 d4
                by_cases hjl : j < L
                · have hjI : (j : Int) < L := by omega
                  obtain ⟨q, hq⟩ : ∃ q, R[j]? = some q := ⟨R[j]'(by rw [HL.out]; exact hjl), List.getElem?_eq_getElem _⟩
                  obtain ⟨gp, rfl, hcap, hcells⟩ := row_cells d4 (by omega)
                  have hqm := List.mem_of_getElem? hq
                  have hnq := HNU.out q hqm
                  have hrq := HRW.out q hqm
                  have hse3 : Hid (mkAll s2 (rowsC (R.take (j + 1))) = mkAll (mkAll s2 (rowsC (R.take j))) (rowCs q.1 q.2)) := Lib.hid (by
                    rw [← mkAll_app, List.take_add_one, hq]; simp [rowsC])
                  obtain ⟨num, ⟨mx, dn, ⟨ac, an, acode, ak⟩⟩⟩ := q
                  have e0 := hcells j _ hq 0 _ rfl
                  have e1 := hcells j _ hq 1 _ rfl
                  have e2 := hcells j _ hq 2 _ rfl
                  have e3 := hcells j _ hq 3 _ rfl
                  have e4 := hcells j _ hq 4 _ rfl
                  have e5 := hcells j _ hq 5 _ rfl
                  have e6 := hcells j _ hq 6 _ rfl
                  rw [Nat.add_zero] at e0
                  dsimp only at e0 e1 e2 e3 e4 e5 e6 hnq hrq hse3
                  have HNQ := Lib.hid hnq; have HRQ := Lib.hid hrq
                  clear hcells hq hqm hnq hrq d4
                  go_wp2_with fail
                  have hK0x := HKj.out.fr ((Fr.refl (fun _ => False) wr).alloc (.cells #[.int .i64 num, .int .u64 mx, .bool dn, .int .i64 ac, .int .i64 an, .int .i64 acode, .int .i64 ak] 86)) (fun _ _ h => h)
                  have hH0x := HHj.out.fr ((Fr.refl (fun _ => False) wr).alloc (.cells #[.int .i64 num, .int .u64 mx, .bool dn, .int .i64 ac, .int .i64 an, .int .i64 acode, .int .i64 ak] 86)) (fun _ _ h => h)
                  have hF0x := HFj.out.trans' ((Fr.refl (fun _ => False) wr).alloc (.cells #[.int .i64 num, .int .u64 mx, .bool dn, .int .i64 ac, .int .i64 an, .int .i64 acode, .int .i64 ak] 86)) (fun b _ e => e.elim)
                  have hX0x := heap_new wr (.cells #[.int .i64 num, .int .u64 mx, .bool dn, .int .i64 ac, .int .i64 an, .int .i64 acode, .int .i64 ak] 86)
                  have hB5 : B ≤ (wr.alloc (.cells #[.int .i64 num, .int .u64 mx, .bool dn, .int .i64 ac, .int .i64 an, .int .i64 acode, .int .i64 ak] 86)).heap.size := by simp; omega
                  have hRb : Hid (¬ wr.heap.size = B) := Lib.hid (by have := HKj.out.lt; omega)
                  have HXB := hRb
                  obtain ⟨rb, hrb⟩ : ∃ rb, wr.heap.size = rb := ⟨_, rfl⟩
                  rw [hrb] at hX0x HXB ⊢
                  obtain ⟨WX, hWX⟩ : ∃ WX, wr.alloc (.cells #[.int .i64 num, .int .u64 mx, .bool dn, .int .i64 ac, .int .i64 an, .int .i64 acode, .int .i64 ak] 86) = WX := ⟨_, rfl⟩
                  rw [hWX] at hK0x hH0x hF0x hX0x hB5 ⊢
                  have HK5 := Lib.hid hK0x; have HH5 := Lib.hid hH0x; have HF5 := Lib.hid hF0x; have HX5 := Lib.hid hX0x
                  clear hK0x hH0x hF0x hX0x hrb hWX hRb e0 e1 e2 e3 e4 e5 e6 d3
                  have hm0 : 0 ≤ mx := HRQ.out.1.mix0
                  have hm1 := HRQ.out.1.mix1
                  dsimp only at hm0 hm1
                  have hmod := Lib.hid (mixMod (x := mx) hm0 hm1)
                  have O1 := Lib.hid (okNu HNQ.out)
                  have O2 : Hid (okI (mx / 4294967296)) := Lib.hid (okHi hm0 hm1)
                  have O3 : Hid (okI (mx % 4294967296)) := Lib.hid (okLo ⟨by omega, by omega⟩)
                  obtain ⟨hi, hhi⟩ : ∃ x, mx / 4294967296 = x := ⟨_, rfl⟩
                  obtain ⟨lo, hlo⟩ : ∃ x, mx % 4294967296 = x := ⟨_, rfl⟩
                  have hwh : IntKind.i64.wrap hi = hi := by rw [IntKind.wrap_i64]; omega
                  have hwl : IntKind.i64.wrap lo = lo := by rw [IntKind.wrap_i64]; omega
                  rw [hhi] at O2
                  rw [hlo] at O3 hmod
                  have O4 := Lib.hid HRQ.out.1.code
                  have O5 := Lib.hid HRQ.out.1.k
                  dsimp only at O4 O5
                  clear hm1
                  have x0 := cell_obj HX5.out 0 (.int .i64 num) rfl
                  have x1 := cell_obj HX5.out 1 (.int .u64 mx) rfl
                  have x2 := cell_obj HX5.out 2 (.bool dn) rfl
                  have x3 := cell_obj HX5.out 3 (.int .i64 ac) rfl
                  have x4 := cell_obj HX5.out 4 (.int .i64 an) rfl
                  have x5 := cell_obj HX5.out 5 (.int .i64 acode) rfl
                  have x6 := cell_obj HX5.out 6 (.int .i64 ak) rfl
                  go_wp2_with fail
                  refine (rMNum _ B B _ num HK5.out O1.out hB5).mono ?_
                  rintro e w6 ⟨⟨vv, rfl⟩, hkx, hfx⟩
                  clear x0 x1 x2 x3 x4 x5 x6
                  have HK6 := Lib.hid hkx; have HH6 := Lib.hid (HH5.out.fr hfx (fun b hb e => HTL.out b hb e)); have HF6 := Lib.hid (HF5.out.trans' hfx (fun b _ e => by omega)); have hB6 : B ≤ w6.heap.size := Nat.le_trans hB5 hfx.size; have HX6 := Lib.hid (hfx.at_ HX5.out HXB.out)
                  clear hkx hfx
                  have x0 := cell_obj HX6.out 0 (.int .i64 num) rfl
                  have x1 := cell_obj HX6.out 1 (.int .u64 mx) rfl
                  have x2 := cell_obj HX6.out 2 (.bool dn) rfl
                  have x3 := cell_obj HX6.out 3 (.int .i64 ac) rfl
                  have x4 := cell_obj HX6.out 4 (.int .i64 an) rfl
                  have x5 := cell_obj HX6.out 5 (.int .i64 acode) rfl
                  have x6 := cell_obj HX6.out 6 (.int .i64 ak) rfl
                  go_wp2_with fail
                  refine (rMNum _ B B _ hi HK6.out O2.out hB6).mono ?_
                  rintro e w7 ⟨⟨vv, rfl⟩, hkx, hfx⟩
                  clear x0 x1 x2 x3 x4 x5 x6
                  have HK7 := Lib.hid hkx; have HH7 := Lib.hid (HH6.out.fr hfx (fun b hb e => HTL.out b hb e)); have HF7 := Lib.hid (HF6.out.trans' hfx (fun b _ e => by omega)); have hB7 : B ≤ w7.heap.size := Nat.le_trans hB6 hfx.size; have HX7 := Lib.hid (hfx.at_ HX6.out HXB.out)
                  clear hkx hfx
                  have x0 := cell_obj HX7.out 0 (.int .i64 num) rfl
                  have x1 := cell_obj HX7.out 1 (.int .u64 mx) rfl
                  have x2 := cell_obj HX7.out 2 (.bool dn) rfl
                  have x3 := cell_obj HX7.out 3 (.int .i64 ac) rfl
                  have x4 := cell_obj HX7.out 4 (.int .i64 an) rfl
                  have x5 := cell_obj HX7.out 5 (.int .i64 acode) rfl
                  have x6 := cell_obj HX7.out 6 (.int .i64 ak) rfl
                  go_wp2_with fail
                  refine (rMNum _ B B _ lo HK7.out O3.out hB7).mono ?_
                  rintro e w8 ⟨⟨vv, rfl⟩, hkx, hfx⟩
                  clear x0 x1 x2 x3 x4 x5 x6
                  have HK8 := Lib.hid hkx; have HH8 := Lib.hid (HH7.out.fr hfx (fun b hb e => HTL.out b hb e)); have HF8 := Lib.hid (HF7.out.trans' hfx (fun b _ e => by omega)); have hB8 : B ≤ w8.heap.size := Nat.le_trans hB7 hfx.size; have HX8 := Lib.hid (hfx.at_ HX7.out HXB.out)
                  clear hkx hfx
                  have x0 := cell_obj HX8.out 0 (.int .i64 num) rfl
                  have x1 := cell_obj HX8.out 1 (.int .u64 mx) rfl
                  have x2 := cell_obj HX8.out 2 (.bool dn) rfl
                  have x3 := cell_obj HX8.out 3 (.int .i64 ac) rfl
                  have x4 := cell_obj HX8.out 4 (.int .i64 an) rfl
                  have x5 := cell_obj HX8.out 5 (.int .i64 acode) rfl
                  have x6 := cell_obj HX8.out 6 (.int .i64 ak) rfl
                  go_wp2_with fail
                  refine (rMFlag _ B B _ dn HK8.out hB8).mono ?_
                  rintro e w9 ⟨⟨vv, rfl⟩, hkx, hfx⟩
                  clear x0 x1 x2 x3 x4 x5 x6
                  have HK9 := Lib.hid hkx; have HH9 := Lib.hid (HH8.out.fr hfx (fun b hb e => HTL.out b hb e)); have HF9 := Lib.hid (HF8.out.trans' hfx (fun b _ e => by omega)); have hB9 : B ≤ w9.heap.size := Nat.le_trans hB8 hfx.size; have HX9 := Lib.hid (hfx.at_ HX8.out HXB.out)
                  clear hkx hfx
                  have x0 := cell_obj HX9.out 0 (.int .i64 num) rfl
                  have x1 := cell_obj HX9.out 1 (.int .u64 mx) rfl
                  have x2 := cell_obj HX9.out 2 (.bool dn) rfl
                  have x3 := cell_obj HX9.out 3 (.int .i64 ac) rfl
                  have x4 := cell_obj HX9.out 4 (.int .i64 an) rfl
                  have x5 := cell_obj HX9.out 5 (.int .i64 acode) rfl
                  have x6 := cell_obj HX9.out 6 (.int .i64 ak) rfl
                  cases dn with
                  | false =>
                    have hfin : Hid (mkAll s2 (rowsC (R.take (j + 1))) = mkQ (mkQ (mkQ (mkQ (mkAll s2 (rowsC (R.take j))) (numB num)) (numB hi)) (numB lo)) [if false then 1 else 0]) := Lib.hid (by
                      rw [hse3.out]; unfold rowCs; dsimp only; rw [hmod.out, hhi]; rfl)
                    go_wp2_with fail
                    go_roundw
                    case rel => exact ⟨j + 1, by omega, by go_num, by rw [hfin.out]; exact HK9.out, HH9.out, HF9.out, hB9⟩
                    case measure => simp [intOf]; omega
                  | true =>
                    have hfin : Hid (mkAll s2 (rowsC (R.take (j + 1))) = mkQ (mkQ (mkQ (mkQ (mkQ (mkQ (mkAll s2 (rowsC (R.take j))) (numB num)) (numB hi)) (numB lo)) [if true then 1 else 0]) (numB acode)) (numB ak)) := Lib.hid (by
                      rw [hse3.out]; unfold rowCs; dsimp only; rw [hmod.out, hhi]; rfl)
                    go_wp2_with fail
                    refine (rMNum _ B B _ acode HK9.out O4.out hB9).mono ?_
                    rintro e w10 ⟨⟨vv, rfl⟩, hkx, hfx⟩
                    clear x0 x1 x2 x3 x4 x5 x6
                    have HK10 := Lib.hid hkx; have HH10 := Lib.hid (HH9.out.fr hfx (fun b hb e => HTL.out b hb e)); have HF10 := Lib.hid (HF9.out.trans' hfx (fun b _ e => by omega)); have hB10 : B ≤ w10.heap.size := Nat.le_trans hB9 hfx.size; have HX10 := Lib.hid (hfx.at_ HX9.out HXB.out)
                    clear hkx hfx
                    have x0 := cell_obj HX10.out 0 (.int .i64 num) rfl
                    have x1 := cell_obj HX10.out 1 (.int .u64 mx) rfl
                    have x2 := cell_obj HX10.out 2 (.bool true) rfl
                    have x3 := cell_obj HX10.out 3 (.int .i64 ac) rfl
                    have x4 := cell_obj HX10.out 4 (.int .i64 an) rfl
                    have x5 := cell_obj HX10.out 5 (.int .i64 acode) rfl
                    have x6 := cell_obj HX10.out 6 (.int .i64 ak) rfl
                    go_wp2_with fail
                    refine (rMNum _ B B _ ak HK10.out O5.out hB10).mono ?_
                    rintro e w11 ⟨⟨vv, rfl⟩, hkx, hfx⟩
                    clear x0 x1 x2 x3 x4 x5 x6
                    have HK11 := Lib.hid hkx; have HH11 := Lib.hid (HH10.out.fr hfx (fun b hb e => HTL.out b hb e)); have HF11 := Lib.hid (HF10.out.trans' hfx (fun b _ e => by omega)); have hB11 : B ≤ w11.heap.size := Nat.le_trans hB10 hfx.size; have HX11 := Lib.hid (hfx.at_ HX10.out HXB.out)
                    clear hkx hfx
                    have x0 := cell_obj HX11.out 0 (.int .i64 num) rfl
                    have x1 := cell_obj HX11.out 1 (.int .u64 mx) rfl
                    have x2 := cell_obj HX11.out 2 (.bool true) rfl
                    have x3 := cell_obj HX11.out 3 (.int .i64 ac) rfl
                    have x4 := cell_obj HX11.out 4 (.int .i64 an) rfl
                    have x5 := cell_obj HX11.out 5 (.int .i64 acode) rfl
                    have x6 := cell_obj HX11.out 6 (.int .i64 ak) rfl
                    go_wp2_with fail
                    go_roundw
                    case rel => exact ⟨j + 1, by omega, by go_num, by rw [hfin.out]; exact HK11.out, HH11.out, HF11.out, hB11⟩
                    case measure => simp [intOf]; omega
                · obtain rfl : j = L := by omega
                  go_wp2_with fail
                  go_roundw
                  case rel => exact ⟨k + 1, by omega, by go_num, by rw [hse.out, hse2.out]; have := HKj.out; rwa [List.take_of_length_le (by rw [HL.out]; omega)] at this, HHj.out, HFj.out, hBj⟩
                  case measure => simp [intOf]; omega
          · have hse : Hid (preL A ((k + 1 : Nat) : Int) = preL A k) := Lib.hid (by rw [show ((k + 1 : Nat) : Int) = (k : Int) + 1 by omega]; exact hno.out h3)
            have hM1 : M ≤ 1 := by omega
            obtain rfl : L = 0 := by omega
            clear h3 hyes hno HMEM
            go_wp2_with (go_at_call 40; refine (hMk.out _ HHr.out).mono ?_; rintro e w' ⟨rfl, rfl⟩)
            go_roundw
            case rel => exact ⟨k + 1, by omega, by go_num, by rw [hse.out, HS1.out]; exact HKr.out, HHr.out, HFr.out, HSr.out⟩
            case measure => simp [intOf]; omega
        · obtain rfl : k = 64 := by omega
          rw [show ((64 : Nat) : Int) = 64 from rfl, preL_all HK.out.keys, ← HSS.out, ← mkAll_app] at HKr
          have hfin : mkAll ([], false) ([numB (A.length : Int)] ++ A.flatMap cliC) = sF := HSF.out
          rw [hfin] at HKr
          clear hfin
          obtain ⟨v, r1, r2, r3⟩ := HKr.out.ex
          have q0 := cell_obj r1 0 v rfl
          have RR := Lib.hid r2
          have hFin := Lib.hid (HFr.out.toBelow (B := w.heap.size) (fun b e => by rw [HB.out]; exact e) (Nat.le_refl _))
          clear r1 r2 r3
          go_wp2_with fail
          go_ret
          rw [← HB.out] at RR
          exact ⟨hFin.out, v, rfl, RR.out⟩
end Go.Proofs.Ytakjiicnbocjeaa
