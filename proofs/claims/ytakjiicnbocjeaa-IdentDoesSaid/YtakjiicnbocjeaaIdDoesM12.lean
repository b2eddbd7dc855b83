/- ident.read: a row out of cells. -/
import Derived.Test.YtakjiicnbocjeaaIdDoesM11
namespace Go.Proofs.Ytakjiicnbocjeaa
open Go.RowKit Go.Maps
def mixOf (h l : Int) : Int := bits .or .u64 (h * 4294967296) l
/-- A number and its row, and what is left. -/
def readT (t : Tst) (c : Int) : (Int × RowV) × Tst :=
  let n := tk t 1 4294967296
  let h := tk n.2 0 4294967295
  let l := tk h.2 0 4294967295
  let f := tk l.2 0 1
  if (f.1 == 1) = true then
    let x := tk f.2 0 1000
    let k := tk x.2 (-9223372036854775808) 9223372036854775807
    ((n.1, ⟨mixOf h.1 l.1, true, ⟨c, n.1, x.1, k.1⟩⟩), k.2)
  else ((n.1, ⟨mixOf h.1 l.1, false, Ans.zero⟩), f.2)
set_option maxRecDepth 100000 in
set_option maxHeartbeats 16000000 in
theorem iRead (w : World) (g : Nat) (TS : Nat → Prop) (t : Tst) (c : Int) (h : TK w g TS t.1 t.2) :
    Calls Try.prog 44 #[.pointer (some ⟨g, 0, none⟩), .int .i64 c] w fun e w' => e = .returned (.tuple #[.int .i64 (readT t c).1.1, (readT t c).1.2.enc]) ∧ TK w' g TS (readT t c).2.1 (readT t c).2.2 ∧ Fr TS w w' := by
  have hW := h.fr ((Fr.refl (fun _ => False) w).alloc (.cells #[.int .u64 0, .bool false, .int .i64 0, .int .i64 0, .int .i64 0, .int .i64 0] 73)) (fun _ _ h => h)
  have hb := heap_new w (.cells #[.int .u64 0, .bool false, .int .i64 0, .int .i64 0, .int .i64 0, .int .i64 0] 73)
  have hnb : ¬ TS w.heap.size := fun e => by have := h.lt _ e; omega
  have hF0 : Fr TS w (w.alloc (.cells #[.int .u64 0, .bool false, .int .i64 0, .int .i64 0, .int .i64 0, .int .i64 0] 73)) := (Fr.refl _ _).alloc _
  have HT := Lib.hid hW; have HB := Lib.hid hb; have HN0 := Lib.hid hnb; have HF0 := Lib.hid hF0
  clear h hW hb hnb hF0
  go_enter Try.func44, Try.ntmps44
  go_wp2_with fail
  obtain ⟨rb, hrb⟩ : ∃ rb, w.heap.size = rb := ⟨_, rfl⟩
  obtain ⟨W, hWW⟩ : ∃ W, w.alloc (.cells #[.int .u64 0, .bool false, .int .i64 0, .int .i64 0, .int .i64 0, .int .i64 0] 73) = W := ⟨_, rfl⟩
  rw [hrb] at HB HN0 ⊢
  rw [hWW] at HT HB HF0 ⊢
  have HWBB : Hid (w.heap.size ≤ rb) := Lib.hid (by omega)
  clear hrb hWW
  refine (xTk _ g TS t 1 4294967296 HT.out).mono ?_
  obtain ⟨n, hn⟩ : ∃ n, tk t 1 4294967296 = n := ⟨_, rfl⟩
  rw [hn]
  rintro e w1 ⟨rfl, hT1, hF1⟩
  have HT1 := Lib.hid hT1; have HF1 := Lib.hid hF1; have HN := Lib.hid hn
  clear hT1 hF1 hn
  go_wp2_with fail
  refine (xTk _ g TS n.2 0 4294967295 HT1.out).mono ?_
  have hh := tk_in n.2 (a := 0) (b := 4294967295) (by omega) (by omega)
  obtain ⟨hi, hhi⟩ : ∃ x, tk n.2 0 4294967295 = x := ⟨_, rfl⟩
  rw [hhi] at hh ⊢
  rintro e w2 ⟨rfl, hT2, hF2⟩
  have HF2 := Lib.hid ((HF0.out.trans HF1.out).trans hF2)
  have HT2 := Lib.hid hT2; have HH := Lib.hid hhi
  have HB2 := Lib.hid (hF2.at_ (HF1.out.at_ HB.out HN0.out) HN0.out)
  obtain ⟨hh0, hh1⟩ := hh
  clear hT2 hF2 hhi
  go_wp2_with fail
  refine (xTk _ g TS hi.2 0 4294967295 HT2.out).mono ?_
  have hl := tk_in hi.2 (a := 0) (b := 4294967295) (by omega) (by omega)
  obtain ⟨lo, hlo⟩ : ∃ x, tk hi.2 0 4294967295 = x := ⟨_, rfl⟩
  rw [hlo] at hl ⊢
  rintro e w3 ⟨rfl, hT3, hF3⟩
  have HF3 := Lib.hid (HF2.out.trans hF3)
  have HT3 := Lib.hid hT3; have HL := Lib.hid hlo
  have HB3 := Lib.hid (hF3.at_ HB2.out HN0.out)
  obtain ⟨hl0, hl1⟩ := hl
  clear hT3 hF3 hlo HF1 HF2 HB HB2 HT HT1 HT2
  have b0 := cell_obj HB3.out 0 (.int .u64 0) rfl
  have f0 := obj_frozen HB3.out 0
  have b1 := cell_obj HB3.out 1 (.bool false) rfl
  have f1 := obj_frozen HB3.out 1
  go_wp2_with fail
  obtain ⟨mx, hmx⟩ : ∃ mx, bits .or .u64 (hi.1 * 4294967296) lo.1 = mx := ⟨_, rfl⟩
  rw [hmx]
  have HMX : Hid (mixOf hi.1 lo.1 = mx) := Lib.hid hmx
  have hrb : rb < w3.heap.size := (Array.getElem?_eq_some_iff.1 HB3.out).1
  have h4 := HT3.out.fr ((Fr.refl (fun _ => False) w3).alloc (.cells #[.int .u64 mx, .bool false, .int .i64 0, .int .i64 0, .int .i64 0, .int .i64 0] 73)) (fun _ _ h => h)
  have hr4 := heap_new w3 (.cells #[.int .u64 mx, .bool false, .int .i64 0, .int .i64 0, .int .i64 0, .int .i64 0] 73)
  have hb4 := heap_keep HB3.out (.cells #[.int .u64 mx, .bool false, .int .i64 0, .int .i64 0, .int .i64 0, .int .i64 0] 73)
  have hn4 : ¬ TS w3.heap.size := fun e => by have := HT3.out.lt _ e; omega
  have hf4 := HF3.out.alloc (.cells #[.int .u64 mx, .bool false, .int .i64 0, .int .i64 0, .int .i64 0, .int .i64 0] 73)
  obtain ⟨ra, hra⟩ : ∃ ra, w3.heap.size = ra := ⟨_, rfl⟩
  rw [hra] at hr4 hn4 hrb ⊢
  have hws : w.heap.size ≤ ra := by rw [← hra]; exact HF3.out.size
  obtain ⟨W4, hW4⟩ : ∃ W4, w3.alloc (.cells #[.int .u64 mx, .bool false, .int .i64 0, .int .i64 0, .int .i64 0, .int .i64 0] 73) = W4 := ⟨_, rfl⟩
  rw [hW4] at h4 hr4 hb4 hf4 ⊢
  have HT4 := Lib.hid h4; have HR4 := Lib.hid hr4; have HB4 := Lib.hid hb4; have HN4 := Lib.hid hn4; have HF4 := Lib.hid hf4; have HWS := Lib.hid hws
  clear h4 hr4 hb4 hn4 hf4 hW4 hra hmx HT3 HB3 HF3 b0 f0 b1 f1 hws
  refine (xTkF _ g TS lo.2 HT4.out).mono ?_
  obtain ⟨fl, hfl⟩ : ∃ x, tk lo.2 0 1 = x := ⟨_, rfl⟩
  rw [hfl]
  obtain ⟨db, hdb⟩ : ∃ db, (fl.1 == 1) = db := ⟨_, rfl⟩
  rw [hdb]
  rintro e w5 ⟨rfl, hT5, hF5⟩
  have HT5 := Lib.hid hT5; have HF5 := Lib.hid (HF4.out.trans' hF5 (fun _ _ h => h))
  have HR5 := Lib.hid (hF5.at_ HR4.out HN4.out); have HB5 := Lib.hid (hF5.at_ HB4.out HN0.out)
  have hrd : readT t c = if db = true then ((n.1, ⟨mx, true, ⟨c, n.1, (tk fl.2 0 1000).1, (tk (tk fl.2 0 1000).2 (-9223372036854775808) 9223372036854775807).1⟩⟩), (tk (tk fl.2 0 1000).2 (-9223372036854775808) 9223372036854775807).2) else ((n.1, ⟨mx, false, Ans.zero⟩), fl.2) := by
    unfold readT
    simp only [HN.out, HH.out, HL.out, hfl, hdb, HMX.out]
  have HRD := Lib.hid hrd
  clear hT5 hF5 hrd hfl hdb HT4 HR4 HB4 HF4
  have b1 := cell_obj HR5.out 1 (.bool false) rfl
  have f1 := obj_frozen HR5.out 1
  have HWB : Hid (w.heap.size ≤ rb) := HWBB
  have HWB : Hid (w.heap.size ≤ rb) := HWBB
  have HWB : Hid (w.heap.size ≤ rb) := HWBB
  have HWB : Hid (w.heap.size ≤ rb) := HWBB
  cases db with
  | false =>
    have hF6 : Fr (fun b => b = ra) w5 (w5.setCell ⟨ra, 1, none⟩ (.bool false)) := (Fr.refl (fun b => b = ra) w5).setCell (p := ⟨ra, 1, none⟩) (fun _ => rfl) _
    have HRW := Lib.hid (obj_set HR5.out 1 (.bool false))
    have HBW := Lib.hid (hF6.at_ HB5.out (fun e => by omega))
    have HTW := Lib.hid (HT5.out.fr hF6 (fun b hb e => HN4.out (e ▸ hb)))
    have HFW := Lib.hid (HF5.out.trans' hF6 (fun b hb e => absurd hb (by rw [e]; have := HWS.out; omega)))
    clear hF6
    go_wp2_with fail
    generalize w5.setCell ⟨ra, 1, none⟩ (.bool false) = W6 at *
    have k0 := cell_obj HRW.out 0 (.int .u64 mx) rfl
    have k1 := cell_obj HRW.out 1 (.bool false) rfl
    have k2 := cell_obj HRW.out 2 (.int .i64 0) rfl
    have k3 := cell_obj HRW.out 3 (.int .i64 0) rfl
    have k4 := cell_obj HRW.out 4 (.int .i64 0) rfl
    have k5 := cell_obj HRW.out 5 (.int .i64 0) rfl
    have z0 := cell_obj HBW.out 0 (.int .u64 0) rfl
    have y0 := obj_frozen HBW.out 0
    have z1 := cell_obj HBW.out 1 (.bool false) rfl
    have y1 := obj_frozen HBW.out 1
    have z2 := cell_obj HBW.out 2 (.int .i64 0) rfl
    have y2 := obj_frozen HBW.out 2
    have z3 := cell_obj HBW.out 3 (.int .i64 0) rfl
    have y3 := obj_frozen HBW.out 3
    have z4 := cell_obj HBW.out 4 (.int .i64 0) rfl
    have y4 := obj_frozen HBW.out 4
    have z5 := cell_obj HBW.out 5 (.int .i64 0) rfl
    have y5 := obj_frozen HBW.out 5
    have hne : rb ≠ ra := Nat.ne_of_lt hrb
    have hne2 : ra ≠ rb := hne.symm
    go_region
    clear k0 k1 k2 k3 k4 k5 z0 z1 z2 z3 z4 z5 y0 y1 y2 y3 y4 y5
    go_wp2_with fail
    have hob : ((((((W6.setCell ⟨rb, 0, none⟩ (.int .u64 mx)).setCell ⟨rb, 1, none⟩ (.bool false)).setCell ⟨rb, 2, none⟩ (.int .i64 0)).setCell ⟨rb, 3, none⟩ (.int .i64 0)).setCell ⟨rb, 4, none⟩ (.int .i64 0)).setCell ⟨rb, 5, none⟩ (.int .i64 0)).heap[rb]? = some (.cells #[.int .u64 mx, .bool false, .int .i64 0, .int .i64 0, .int .i64 0, .int .i64 0] 73) := (obj_set (obj_set (obj_set (obj_set (obj_set (obj_set HBW.out 0 (.int .u64 mx)) 1 (.bool false)) 2 (.int .i64 0)) 3 (.int .i64 0)) 4 (.int .i64 0)) 5 (.int .i64 0))
    have hff := (((((((Fr.refl (fun b => b = rb) W6).setCell (p := ⟨rb, 0, none⟩) (fun _ => rfl) (.int .u64 mx)).setCell (p := ⟨rb, 1, none⟩) (fun _ => rfl) (.bool false)).setCell (p := ⟨rb, 2, none⟩) (fun _ => rfl) (.int .i64 0)).setCell (p := ⟨rb, 3, none⟩) (fun _ => rfl) (.int .i64 0)).setCell (p := ⟨rb, 4, none⟩) (fun _ => rfl) (.int .i64 0)).setCell (p := ⟨rb, 5, none⟩) (fun _ => rfl) (.int .i64 0))
    obtain ⟨WE, hWE⟩ : ∃ WE, ((((((W6.setCell ⟨rb, 0, none⟩ (.int .u64 mx)).setCell ⟨rb, 1, none⟩ (.bool false)).setCell ⟨rb, 2, none⟩ (.int .i64 0)).setCell ⟨rb, 3, none⟩ (.int .i64 0)).setCell ⟨rb, 4, none⟩ (.int .i64 0)).setCell ⟨rb, 5, none⟩ (.int .i64 0)) = WE := ⟨_, rfl⟩
    rw [hWE] at hob hff ⊢
    clear hWE
    have hWF : WE.drew.heap[rb]? = some (.cells #[.int .u64 mx, .bool false, .int .i64 0, .int .i64 0, .int .i64 0, .int .i64 0] 73) := hob
    have hFF := hff.drew
    clear hob hff
    generalize WE.drew = WF at *
    have k0 := cell_obj hWF 0 (.int .u64 mx) rfl
    have k1 := cell_obj hWF 1 (.bool false) rfl
    have k2 := cell_obj hWF 2 (.int .i64 0) rfl
    have k3 := cell_obj hWF 3 (.int .i64 0) rfl
    have k4 := cell_obj hWF 4 (.int .i64 0) rfl
    have k5 := cell_obj hWF 5 (.int .i64 0) rfl
    refine bodyPost_ret (by simp [results, Try.results44, go_sem, k0, k1, k2, k3, k4, k5]; rfl) rfl ?_
    rw [HRD.out]
    refine ⟨rfl, HTW.out.fr hFF (fun b hb e => HN0.out (e ▸ hb)), HFW.out.trans' hFF (fun b hb e => ?_)⟩
    exact absurd hb (by rw [e]; have := HWB.out; omega)
  | true =>
    have hF6 : Fr (fun b => b = ra) w5 (w5.setCell ⟨ra, 1, none⟩ (.bool true)) := (Fr.refl (fun b => b = ra) w5).setCell (p := ⟨ra, 1, none⟩) (fun _ => rfl) _
    have HRW := Lib.hid (obj_set HR5.out 1 (.bool true))
    have HBW := Lib.hid (hF6.at_ HB5.out (fun e => by omega))
    have HTW := Lib.hid (HT5.out.fr hF6 (fun b hb e => HN4.out (e ▸ hb)))
    have HFW := Lib.hid (HF5.out.trans' hF6 (fun b hb e => absurd hb (by rw [e]; have := HWS.out; omega)))
    clear hF6
    go_wp2_with fail
    generalize w5.setCell ⟨ra, 1, none⟩ (.bool true) = W6 at *
    refine (xTk _ g TS fl.2 0 1000 HTW.out).mono ?_
    have hx := tk_in fl.2 (a := 0) (b := 1000) (by omega) (by omega)
    obtain ⟨xc, hxc⟩ : ∃ x, tk fl.2 0 1000 = x := ⟨_, rfl⟩
    rw [hxc] at hx HRD ⊢
    rintro e w7 ⟨rfl, hT7, hF7⟩
    have HR7 := Lib.hid (hF7.at_ HRW.out HN4.out); have HB7 := Lib.hid (hF7.at_ HBW.out HN0.out); have HT7 := Lib.hid hT7; have HF7 := Lib.hid (HFW.out.trans' hF7 (fun _ _ h => h))
    obtain ⟨hx0, hx1⟩ := hx
    clear hT7 hF7 hxc HRW HBW HTW HFW HR5 HB5 HT5 HF5 b1 f1
    have q2 := cell_obj HR7.out 2 (.int .i64 0) rfl
    have q3 := cell_obj HR7.out 3 (.int .i64 0) rfl
    have q4 := cell_obj HR7.out 4 (.int .i64 0) rfl
    have q5 := cell_obj HR7.out 5 (.int .i64 0) rfl
    have y2 := obj_frozen HR7.out 2
    have y3 := obj_frozen HR7.out 3
    have y4 := obj_frozen HR7.out 4
    have y5 := obj_frozen HR7.out 5
    go_wp2_with fail
    clear q2 q3 q4 q5 y2 y3 y4 y5
    obtain ⟨W8, hW8⟩ : ∃ W8, (((w7.setCell ⟨ra, 2, none⟩ (.int .i64 c)).setCell ⟨ra, 3, none⟩ (.int .i64 n.1)).setCell ⟨ra, 4, none⟩ (.int .i64 xc.1)).setCell ⟨ra, 5, none⟩ (.int .i64 0) = W8 := ⟨_, rfl⟩
    have hR8 := obj_set (obj_set (obj_set (obj_set HR7.out 2 (.int .i64 c)) 3 (.int .i64 n.1)) 4 (.int .i64 xc.1)) 5 (.int .i64 0)
    have hF8 := ((((Fr.refl (fun b => b = ra) w7).setCell (p := ⟨ra, 2, none⟩) (fun _ => rfl) (.int .i64 c)).setCell (p := ⟨ra, 3, none⟩) (fun _ => rfl) (.int .i64 n.1)).setCell (p := ⟨ra, 4, none⟩) (fun _ => rfl) (.int .i64 xc.1)).setCell (p := ⟨ra, 5, none⟩) (fun _ => rfl) (.int .i64 0)
    rw [hW8] at hR8 hF8
    have HR8 := Lib.hid hR8
    have HB8 := Lib.hid (hF8.at_ HB7.out (fun e => by omega))
    have HT8 := Lib.hid (HT7.out.fr hF8 (fun b hb e => HN4.out (e ▸ hb)))
    have HF8 := Lib.hid (HF7.out.trans' hF8 (fun b hb e => absurd hb (by rw [e]; have := HWS.out; omega)))
    rw [hW8]
    clear hR8 hF8 hW8 HR7 HB7 HT7 HF7
    refine (xTk _ g TS xc.2 (-9223372036854775808) 9223372036854775807 HT8.out).mono ?_
    obtain ⟨xk, hxk⟩ : ∃ x, tk xc.2 (-9223372036854775808) 9223372036854775807 = x := ⟨_, rfl⟩
    rw [hxk] at HRD ⊢
    rintro e w9 ⟨rfl, hT9, hF9⟩
    have HR9 := Lib.hid (hF9.at_ HR8.out HN4.out); have HB9 := Lib.hid (hF9.at_ HB8.out HN0.out); have HT9 := Lib.hid hT9; have HF9 := Lib.hid (HF8.out.trans' hF9 (fun _ _ h => h))
    clear hT9 hF9 hxk HR8 HB8 HT8 HF8
    have q5 := cell_obj HR9.out 5 (.int .i64 0) rfl
    have y5 := obj_frozen HR9.out 5
    have hF6 : Fr (fun b => b = ra) w9 (w9.setCell ⟨ra, 5, none⟩ (.int .i64 xk.1)) := (Fr.refl (fun b => b = ra) w9).setCell (p := ⟨ra, 5, none⟩) (fun _ => rfl) _
    have HRW := Lib.hid (obj_set HR9.out 5 (.int .i64 xk.1))
    have HBW := Lib.hid (hF6.at_ HB9.out (fun e => by omega))
    have HTW := Lib.hid (HT9.out.fr hF6 (fun b hb e => HN4.out (e ▸ hb)))
    have HFW := Lib.hid (HF9.out.trans' hF6 (fun b hb e => absurd hb (by rw [e]; have := HWS.out; omega)))
    clear hF6 HR9 HB9 HT9 HF9
    go_wp2_with fail
    generalize w9.setCell ⟨ra, 5, none⟩ (.int .i64 xk.1) = W6' at *
    have k0 := cell_obj HRW.out 0 (.int .u64 mx) rfl
    have k1 := cell_obj HRW.out 1 (.bool true) rfl
    have k2 := cell_obj HRW.out 2 (.int .i64 c) rfl
    have k3 := cell_obj HRW.out 3 (.int .i64 n.1) rfl
    have k4 := cell_obj HRW.out 4 (.int .i64 xc.1) rfl
    have k5 := cell_obj HRW.out 5 (.int .i64 xk.1) rfl
    have z0 := cell_obj HBW.out 0 (.int .u64 0) rfl
    have y0 := obj_frozen HBW.out 0
    have z1 := cell_obj HBW.out 1 (.bool false) rfl
    have y1 := obj_frozen HBW.out 1
    have z2 := cell_obj HBW.out 2 (.int .i64 0) rfl
    have y2 := obj_frozen HBW.out 2
    have z3 := cell_obj HBW.out 3 (.int .i64 0) rfl
    have y3 := obj_frozen HBW.out 3
    have z4 := cell_obj HBW.out 4 (.int .i64 0) rfl
    have y4 := obj_frozen HBW.out 4
    have z5 := cell_obj HBW.out 5 (.int .i64 0) rfl
    have y5 := obj_frozen HBW.out 5
    have hne : rb ≠ ra := Nat.ne_of_lt hrb
    have hne2 : ra ≠ rb := hne.symm
    go_region
    clear k0 k1 k2 k3 k4 k5 z0 z1 z2 z3 z4 z5 y0 y1 y2 y3 y4 y5
    go_wp2_with fail
    have hob : ((((((W6'.setCell ⟨rb, 0, none⟩ (.int .u64 mx)).setCell ⟨rb, 1, none⟩ (.bool true)).setCell ⟨rb, 2, none⟩ (.int .i64 c)).setCell ⟨rb, 3, none⟩ (.int .i64 n.1)).setCell ⟨rb, 4, none⟩ (.int .i64 xc.1)).setCell ⟨rb, 5, none⟩ (.int .i64 xk.1)).heap[rb]? = some (.cells #[.int .u64 mx, .bool true, .int .i64 c, .int .i64 n.1, .int .i64 xc.1, .int .i64 xk.1] 73) := (obj_set (obj_set (obj_set (obj_set (obj_set (obj_set HBW.out 0 (.int .u64 mx)) 1 (.bool true)) 2 (.int .i64 c)) 3 (.int .i64 n.1)) 4 (.int .i64 xc.1)) 5 (.int .i64 xk.1))
    have hff := (((((((Fr.refl (fun b => b = rb) W6').setCell (p := ⟨rb, 0, none⟩) (fun _ => rfl) (.int .u64 mx)).setCell (p := ⟨rb, 1, none⟩) (fun _ => rfl) (.bool true)).setCell (p := ⟨rb, 2, none⟩) (fun _ => rfl) (.int .i64 c)).setCell (p := ⟨rb, 3, none⟩) (fun _ => rfl) (.int .i64 n.1)).setCell (p := ⟨rb, 4, none⟩) (fun _ => rfl) (.int .i64 xc.1)).setCell (p := ⟨rb, 5, none⟩) (fun _ => rfl) (.int .i64 xk.1))
    obtain ⟨WE, hWE⟩ : ∃ WE, ((((((W6'.setCell ⟨rb, 0, none⟩ (.int .u64 mx)).setCell ⟨rb, 1, none⟩ (.bool true)).setCell ⟨rb, 2, none⟩ (.int .i64 c)).setCell ⟨rb, 3, none⟩ (.int .i64 n.1)).setCell ⟨rb, 4, none⟩ (.int .i64 xc.1)).setCell ⟨rb, 5, none⟩ (.int .i64 xk.1)) = WE := ⟨_, rfl⟩
    rw [hWE] at hob hff ⊢
    clear hWE
    have hWF : WE.drew.heap[rb]? = some (.cells #[.int .u64 mx, .bool true, .int .i64 c, .int .i64 n.1, .int .i64 xc.1, .int .i64 xk.1] 73) := hob
    have hFF := hff.drew
    clear hob hff
    generalize WE.drew = WF at *
    have k0 := cell_obj hWF 0 (.int .u64 mx) rfl
    have k1 := cell_obj hWF 1 (.bool true) rfl
    have k2 := cell_obj hWF 2 (.int .i64 c) rfl
    have k3 := cell_obj hWF 3 (.int .i64 n.1) rfl
    have k4 := cell_obj hWF 4 (.int .i64 xc.1) rfl
    have k5 := cell_obj hWF 5 (.int .i64 xk.1) rfl
    refine bodyPost_ret (by simp [results, Try.results44, go_sem, k0, k1, k2, k3, k4, k5]; rfl) rfl ?_
    rw [HRD.out]
    refine ⟨rfl, HTW.out.fr hFF (fun b hb e => HN0.out (e ▸ hb)), HFW.out.trans' hFF (fun b hb e => ?_)⟩
    exact absurd hb (by rw [e]; have := HWB.out; omega)
end Go.Proofs.Ytakjiicnbocjeaa
