/- ident.put: a row's cells. -/
import Derived.Test.YtakjiicnbocjeaaIdDoesM2
import Derived.Test.YtakjiicnbocjeaaIdDoesM10
import Derived.Deep.RegionHeld3
namespace Go.Proofs.Ytakjiicnbocjeaa
open Go.RowKit Go.Maps
/-- A row's cells. -/
def rowCs (n : Int) (r : RowV) : List (List Int) := [numB n, numB (r.mix / 4294967296), numB (bits .and .u64 r.mix 4294967295), [if r.done then 1 else 0]] ++ (if r.done = true then [numB r.a.code, numB r.a.k] else [])
structure RowOk (r : RowV) : Prop where
  mix0 : 0 ≤ r.mix
  mix1 : r.mix < 18446744073709551616
  code : okI r.a.code
  k : okI r.a.k
theorem and32 {x : Int} (h0 : 0 ≤ x) (h1 : x < 18446744073709551616) : 0 ≤ bits .and .u64 x 4294967295 ∧ bits .and .u64 x 4294967295 ≤ 4294967295 := by
  obtain ⟨n, rfl⟩ : ∃ n : Nat, x = n := ⟨x.toNat, by omega⟩
  rw [show (4294967295 : Int) = ((4294967295 : Nat) : Int) from rfl, u64_and_nat _ _ (by omega) (by omega)]
  have := Nat.and_le_right (n := n) (m := 4294967295)
  omega
set_option maxRecDepth 100000 in
set_option maxHeartbeats 1000000 in
theorem iPut (w : World) (g : Nat) (TS : Nat → Prop) (s : Mst) (n : Int) (r : RowV) (h : MK w g TS s.1 s.2) (hn : okI n) (hr : RowOk r) :
    Calls Try.prog 37 #[.pointer (some ⟨g, 0, none⟩), .int .i64 n, r.enc] w fun e w' => (∃ v, e = .returned v) ∧ ∃ TS', MK w' g TS' (mkAll s (rowCs n r)).1 (mkAll s (rowCs n r)).2 ∧ Stp TS w w' TS' := by
  obtain ⟨mix, dn, ⟨ac, an, acode, ak⟩⟩ := r
  have HM := Lib.hid h; have HR := Lib.hid hr; have HN := Lib.hid hn
  obtain ⟨m0, m1, -, -⟩ := id hr
  dsimp only at m0 m1
  clear h hr hn
  unfold RowV.enc
  dsimp only
  go_enter Try.func37, Try.ntmps37
  go_wp2_with fail
  have hW := HM.out.fr (((Fr.refl (fun _ => False) w).alloc (.cells #[.int .u64 mix, .bool dn, .int .i64 ac, .int .i64 an, .int .i64 acode, .int .i64 ak] 73)).drew) (fun _ _ h => h)
  have hb := heap_new w (.cells #[.int .u64 mix, .bool dn, .int .i64 ac, .int .i64 an, .int .i64 acode, .int .i64 ak] 73)
  have hnb : ¬ TS w.heap.size := fun e => by have := HM.out.lt _ e; omega
  have hF0 : Fr (fun _ => False) w (w.alloc (.cells #[.int .u64 mix, .bool dn, .int .i64 ac, .int .i64 an, .int .i64 acode, .int .i64 ak] 73)) := (Fr.refl _ _).alloc _
  obtain ⟨rb, hrb⟩ : ∃ rb, w.heap.size = rb := ⟨_, rfl⟩
  rw [hrb] at hb hnb ⊢
  obtain ⟨W, hWW⟩ : ∃ W, w.alloc (.cells #[.int .u64 mix, .bool dn, .int .i64 ac, .int .i64 an, .int .i64 acode, .int .i64 ak] 73) = W := ⟨_, rfl⟩
  rw [hWW] at hW hb hF0 ⊢
  clear hWW
  have p0 := cell_obj hb 0 (.int .u64 mix) rfl
  have p1 := cell_obj hb 1 (.bool dn) rfl
  have hM := Lib.hid hW; have hB := Lib.hid hb; have hN := Lib.hid hnb; have HF0 := Lib.hid hF0; have HRB := Lib.hid hrb
  have hS := Lib.hid (Stp.refl (TS := TS) (Fr.refl (fun _ => False) W.drew))
  clear hW hb hnb hF0 hrb
  have hokn := Lib.hid HN.out
  have hlo : 0 ≤ bits .and .u64 mix 4294967295 ∧ bits .and .u64 mix 4294967295 ≤ 4294967295 := and32 m0 m1
  obtain ⟨hi, hhi⟩ : ∃ hi, mix / 4294967296 = hi := ⟨_, rfl⟩
  obtain ⟨lo, hll⟩ : ∃ lo, bits .and .u64 mix 4294967295 = lo := ⟨_, rfl⟩
  have hwh : IntKind.i64.wrap hi = hi := by rw [IntKind.wrap_i64]; omega
  have hwl : IntKind.i64.wrap lo = lo := by rw [IntKind.wrap_i64]; omega
  have hok1 : Hid (okI hi) := Lib.hid (by unfold okI; omega)
  have hok2 : Hid (okI lo) := Lib.hid (by unfold okI; omega)
  clear hlo
  go_region_held3 (fun w' => w'.cell? ⟨rb, 0, none⟩ = some (.int .u64 mix) ∧ w'.cell? ⟨rb, 1, none⟩ = some (.bool dn)) (first | exact ⟨p0, p1⟩ | exact ⟨cell_obj hB.out 0 (.int .u64 mix) rfl, cell_obj hB.out 1 (.bool dn) rfl⟩)
    (first
      | (go_at_call 34; refine (cMNum _ g _ _ _ _ hM.out (by first | exact hokn.out | exact hok1.out | exact hok2.out)).mono ?_; rintro e w1 ⟨rfl, TS1, hMx, hsx⟩; have NB := hN.out; have hBn := Lib.hid (hsx.1.at_ hB.out NB); have hN := Lib.hid (show ¬ TS1 rb from fun e => (hsx.2 _ e).elim NB (fun h => absurd (Array.getElem?_eq_some_iff.1 hB.out).1 (Nat.not_lt.2 h))); have hB := hBn; have hS := Lib.hid (hS.out.trans hsx); have hM := Lib.hid hMx; clear hMx hsx NB hBn)
      | (go_at_call 57; refine (cMFlag _ g _ _ _ dn hM.out).mono ?_; rintro e w1 ⟨rfl, TS1, hMx, hsx⟩; have NB := hN.out; have hBn := Lib.hid (hsx.1.at_ hB.out NB); have hN := Lib.hid (show ¬ TS1 rb from fun e => (hsx.2 _ e).elim NB (fun h => absurd (Array.getElem?_eq_some_iff.1 hB.out).1 (Nat.not_lt.2 h))); have hB := hBn; have hS := Lib.hid (hS.out.trans hsx); have hM := Lib.hid hMx; clear hMx hsx NB hBn))
  have hdone := cell_obj hB.out 1 (.bool dn) rfl
  have hSW : Hid (Stp TS w w1 TS1) := Lib.hid ((Stp.refl HF0.out).trans ((Stp.refl (Fr.refl (fun _ => False) W).drew).trans hS.out))
  have hlast : mkAll s [numB n, numB hi, numB lo, [if dn then 1 else 0]] = mkAll s [numB n, numB hi, numB lo, [if dn then 1 else 0]] := rfl
  obtain ⟨s4, hs4⟩ : ∃ s4, mkAll s [numB n, numB hi, numB lo, [if dn then 1 else 0]] = s4 := ⟨_, rfl⟩
  have hM4 : Hid (MK w1 g TS1 s4.1 s4.2) := Lib.hid (by rw [← hs4]; exact hM.out)
  have hcs : mkAll s (rowCs n ⟨mix, dn, ⟨ac, an, acode, ak⟩⟩) = if dn = true then mkAll s4 [numB acode, numB ak] else s4 := by
    rw [← hs4]
    unfold rowCs mkAll
    dsimp only
    rw [hhi, hll]
    cases dn <;> rfl
  have HCS := Lib.hid hcs
  clear hM hlast hcs hs4 p0 p1 hhi hll
  cases dn with
  | false =>
    go_wp2_with fail
    go_end0
    rw [HCS.out]
    exact ⟨⟨_, rfl⟩, TS1, hM4.out, hSW.out⟩
  | true =>
    have p4 := cell_obj hB.out 4 (.int .i64 acode) rfl
    have p5 := cell_obj hB.out 5 (.int .i64 ak) rfl
    have hok3 : Hid (okI acode) := Lib.hid HR.out.code
    have hok4 : Hid (okI ak) := Lib.hid HR.out.k
    have hM := Lib.hid (hM4.out.fr (Fr.refl (fun _ => False) w1).drew (fun _ _ h => h))
    have hS := Lib.hid (hSW.out.trans (Stp.refl (Fr.refl (fun _ => False) w1).drew))
    have hwc : IntKind.i64.wrap acode = acode := by have := hok3.out; unfold okI at this; rw [IntKind.wrap_i64]; omega
    go_wp2_with fail
    go_region_held3 (fun w' => w'.cell? ⟨rb, 4, none⟩ = some (.int .i64 acode) ∧ w'.cell? ⟨rb, 5, none⟩ = some (.int .i64 ak)) (first | exact ⟨p4, p5⟩ | exact ⟨cell_obj hB.out 4 (.int .i64 acode) rfl, cell_obj hB.out 5 (.int .i64 ak) rfl⟩)
      (first
        | (go_at_call 34; refine (cMNum _ g _ _ _ _ hM.out (by first | exact hok3.out | exact hok4.out)).mono ?_; rintro e w1 ⟨rfl, TS1, hMx, hsx⟩; have NB := hN.out; have hBn := Lib.hid (hsx.1.at_ hB.out NB); have hN := Lib.hid (show ¬ TS1 rb from fun e => (hsx.2 _ e).elim NB (fun h => absurd (Array.getElem?_eq_some_iff.1 hB.out).1 (Nat.not_lt.2 h))); have hB := hBn; have hS := Lib.hid (hS.out.trans hsx); have hM := Lib.hid hMx; clear hMx hsx NB hBn))
    go_wp2_with fail
    go_end0
    rw [HCS.out]
    exact ⟨⟨_, rfl⟩, TS1, hM.out, hS.out⟩
end Go.Proofs.Ytakjiicnbocjeaa
