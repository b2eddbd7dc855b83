/- bins: Count (written by wip/tools/cnt27.py). -/
import Derived.Test.YtefjdcghdcbojaaGreatBinsBackM7
import Derived.Deep.RegionHeld3
namespace Go.Proofs.YtefjdcghdcbojaaGreat
open Go.RowKit Go.Maps
def countE (M : List BE) (nu : Int) (s : Str) (n : Int) : Int × Int × List BE :=
  match M.findIdx? (fun b => decide (b.nu = nu)) with
  | none => (0, 270, M)
  | some i => match M[i]? with
    | none => (0, 270, M)
    | some b => if goodB s = true ∧ mayI n = true then (if 0 < n ∧ (kindE b s = 3 ∨ leftE b + ofF b.its s < n) then (0, 2, M) else (n - ofF b.its s, 0, M.set i (b.put s n))) else (0, 60, M)
def CtP (w : World) (g : Nat) (TS : Nat → Prop) (R : Int × Int × List BE) (e : Ending) (w' : World) : Prop :=
  e = .returned (.tuple #[.int .i64 R.1, .int .i64 R.2.1]) ∧ ∃ L' TS', FA w' g TS' L' ∧ L'.map BV.e = R.2.2 ∧ Stp TS w w' TS'
theorem find_map (L : List BV) (nu : Int) : (L.map BV.e).findIdx? (fun b => decide (b.nu = nu)) = L.findIdx? (fun b => decide (b.nu = nu)) := by
  rw [List.findIdx?_map]; rfl
theorem findF_none {L : List BV} {nu : Int} (h : L.findIdx? (fun b => decide (b.nu = nu)) = none) : findF L nu = -1 := by unfold findF idxOf; rw [h]
theorem findF_some {L : List BV} {nu : Int} {i : Nat} (h : L.findIdx? (fun b => decide (b.nu = nu)) = some i) : findF L nu = i := by unfold findF idxOf; rw [h]
theorem CtP.same {w w' : World} {g : Nat} {TS : Nat → Prop} {L : List BV} {a b : Int} (h : FA w g TS L) (hf : Fr (fun _ => False) w w') : CtP w g TS (a, b, L.map BV.e) (.returned (.tuple #[.int .i64 a, .int .i64 b])) w' :=
  ⟨rfl, L, TS, h.fr hf (fun _ _ e => e), rfl, Stp.refl hf⟩
set_option maxRecDepth 100000 in
set_option maxHeartbeats 16000000 in
theorem bCount_find (w : World) (g : Nat) (TS : Nat → Prop) (L : List BV) (nu : Int) (s : Str) (n : Int) (h : FA w g TS L) (hL : 0 < L.length) (hi : L.findIdx? (fun b => decide (b.nu = nu)) = none) : Calls Tryz.prog 45 #[.pointer (some ⟨g, 0, none⟩), .int .i64 nu, vS s, .int .i64 n] w fun e w' => e = .returned (.tuple #[.int .i64 0, .int .i64 270]) ∧ Fr (fun _ => False) w w' := by
  have hm := Lib.hid (bMade w g L h.fl hL)
  have hfd := Lib.hid (bFind w g L nu h.fl hL)
  rw [findF_none hi] at hfd
  clear h hL hi
  go_enter Tryz.func45, Tryz.ntmps45
  go_wp2_with (first
    | (go_at_call 34; refine hm.out.mono ?_; rintro e w1 ⟨rfl, rfl⟩)
    | (go_at_call 77; refine hfd.out.mono ?_; rintro e w2 ⟨rfl, hf2⟩; have HF2 := Lib.hid hf2; clear hf2))
  go_ret2
  exact ⟨rfl, HF2.out⟩
set_option maxRecDepth 100000 in
set_option maxHeartbeats 16000000 in
theorem bCount_arg (w : World) (g : Nat) (TS : Nat → Prop) (L : List BV) (nu : Int) (s : Str) (n : Int) (h : FA w g TS L) (hL : 0 < L.length) {i : Nat} (hi : L.findIdx? (fun b => decide (b.nu = nu)) = some i) (hs : okS s) (hgm : ¬ (goodB s = true ∧ mayI n = true)) : Calls Tryz.prog 45 #[.pointer (some ⟨g, 0, none⟩), .int .i64 nu, vS s, .int .i64 n] w fun e w' => e = .returned (.tuple #[.int .i64 0, .int .i64 60]) ∧ Fr (fun _ => False) w w' := by
  have hm := Lib.hid (bMade w g L h.fl hL)
  have hfd := Lib.hid (bFind w g L nu h.fl hL)
  rw [findF_some hi] at hfd
  have hjn : ((i : Int) == -1) = false := beq_eq_false_iff_ne.2 (by omega)
  have hg := Lib.hid (fun W => iGood W s hs)
  have hM := Lib.hid (fun W => kMay W n)
  clear h hL hi hs
  cases e1 : goodB s with
  | false =>
    rw [e1] at hg
    clear hgm e1
    go_enter Tryz.func45, Tryz.ntmps45
    go_wp2_with (first
      | (go_at_call 34; refine hm.out.mono ?_; rintro e w1 ⟨rfl, rfl⟩)
      | (go_at_call 77; refine hfd.out.mono ?_; rintro e w2 ⟨rfl, hf2⟩; have HF2 := Lib.hid hf2; clear hf2)
      | (go_at_call 90; refine (hg.out _).mono ?_; rintro e w3 ⟨rfl, hf3⟩; have HF3 := Lib.hid (HF2.out.trans hf3); clear hf3))
    go_ret2
    exact ⟨rfl, HF3.out⟩
  | true =>
    cases e2 : mayI n with
    | true => exact absurd ⟨e1, e2⟩ hgm
    | false =>
      rw [e1] at hg
      rw [e2] at hM
      clear hgm e1 e2
      go_enter Tryz.func45, Tryz.ntmps45
      go_wp2_with (first
        | (go_at_call 34; refine hm.out.mono ?_; rintro e w1 ⟨rfl, rfl⟩)
        | (go_at_call 77; refine hfd.out.mono ?_; rintro e w2 ⟨rfl, hf2⟩; have HF2 := Lib.hid hf2; clear hf2)
        | (go_at_call 90; refine (hg.out _).mono ?_; rintro e w3 ⟨rfl, hf3⟩; have HF3 := Lib.hid (HF2.out.trans hf3); clear hf3)
        | (go_at_call 91; refine (hM.out _).mono ?_; rintro e w4 ⟨rfl, rfl⟩))
      go_ret2
      exact ⟨rfl, HF3.out⟩
set_option maxRecDepth 100000 in
set_option maxHeartbeats 16000000 in
theorem bCount_kind (w : World) (g : Nat) (TS : Nat → Prop) (L : List BV) (nu : Int) (s : Str) (n : Int) (h : FA w g TS L) (hL : 0 < L.length) {i : Nat} {x : BV} (hi : L.findIdx? (fun b => decide (b.nu = nu)) = some i) (hx : L[i]? = some x) (hs : okS s) (hn : okI n) (hgd : goodB s = true) (hmd : mayI n = true) (hw : BW s x.e) (hp : 0 < n) (hk : kindE x.e s = 3) : Calls Tryz.prog 45 #[.pointer (some ⟨g, 0, none⟩), .int .i64 nu, vS s, .int .i64 n] w fun e w' => e = .returned (.tuple #[.int .i64 0, .int .i64 2]) ∧ Fr (fun _ => False) w w' := by
  have hm := Lib.hid (bMade w g L h.fl hL)
  have hfd := Lib.hid (bFind w g L nu h.fl hL)
  rw [findF_some hi] at hfd
  have hjn : ((i : Int) == -1) = false := beq_eq_false_iff_ne.2 (by omega)
  have hg := Lib.hid (fun W => iGood W s hs)
  have hM := Lib.hid (fun W => kMay W n)
  rw [hgd] at hg
  rw [hmd] at hM
  obtain ⟨r, cap, hb⟩ := h.fb
  have hbk := h.bok (List.mem_of_getElem? hx)
  have hOf := Lib.hid (fun W (hf : Fr (fun _ => False) w W) => iOf W x.l x.its s ((bokKeeps hbk hf (fun _ e => e.elim)).l))
  have hKD := Lib.hid (fun W (hf : Fr (fun _ => False) w W) => bKind W x s (bokKeeps hbk hf (fun _ e => e.elim)))
  have hLF := Lib.hid (fun W (hf : Fr (fun _ => False) w W) => bLeft W x (bokKeeps hbk hf (fun _ e => e.elim)))
  have hwt := Lib.hid (fun W (hf : Fr (fun _ => False) w W) => bWith W x s n (bokKeeps hbk hf (fun _ e => e.elim)) (by have h8 : x.its.length ≤ 17 := hw.len; omega) hw.ri hs hn)
  have hLO := hw.left
  have hof := hw.of s
  have q1 := hw.ro; have q2 := hw.tot; have q3 := sumI_nn hw.pos; have q4 := getI_nn s hw.pos; have q5 := getI_le s hw.pos
  rw [show x.e.its = x.its from rfl] at hof
  have hwr : IntKind.i64.wrap (leftE x.e + ofF x.its s) = leftE x.e + ofF x.its s := IntWalk.i64_in _ (by rw [hLO, hof]; show _ ∧ _; have : getI x.e.its s = getI x.its s := rfl; omega)
  have hwr2 : IntKind.i64.wrap (n - ofF x.its s) = n - ofF x.its s := IntWalk.i64_in _ (by rw [hof]; have : getI x.e.its s = getI x.its s := rfl; have := mayI_iff.1 hmd; omega)
  obtain ⟨OF, hOF⟩ : ∃ y, ofF x.its s = y := ⟨_, rfl⟩
  obtain ⟨KD, hKK⟩ : ∃ y, kindE x.e s = y := ⟨_, rfl⟩
  obtain ⟨LE, hLE⟩ : ∃ y, leftE x.e = y := ⟨_, rfl⟩
  rw [kindE_e, hKK] at hKD
  rw [leftE_e, hLE] at hLF
  rw [hOF] at hOf
  rw [hLE, hOF] at hwr
  rw [hOF] at hwr2
  rw [hKK] at hk
  subst hk
  have hiN := (List.getElem?_eq_some_iff.1 hx).1
  have HBX := Lib.hid hbk; have HX := Lib.hid hx; have HFB := Lib.hid hb
  obtain ⟨xn, xz, xr, xl, xi⟩ := x
  obtain ⟨la, lc, hl⟩ := hbk.l.sl
  dsimp only at hl
  subst hl
  have hcs : BV.cs ⟨xn, xz, xr, .slice la xi.length lc, xi⟩ = #[.int .i64 xn, .int .i64 xz, .int .i64 xr, .slice la xi.length lc] := rfl
  rw [hcs] at hKD hLF hwt
  dsimp only at hOf
  have HPT : Hid (∀ v, BV.cs (BV.put ⟨xn, xz, xr, .slice la xi.length lc, xi⟩ v s n) = #[.int .i64 xn, .int .i64 xz, .int .i64 xr, v]) := Lib.hid (fun v => rfl)
  obtain ⟨Nl, hNl⟩ : ∃ y, xi.length = y := ⟨_, rfl⟩
  obtain ⟨N, hN⟩ : ∃ y, L.length = y := ⟨_, rfl⟩
  have HNl := Lib.hid hNl; have HN := Lib.hid hN
  rw [hNl] at hKD hLF hwt hOf
  rw [hN] at hiN
  have hiI : (i : Int) < N := by omega
  have hcells : Hid (∀ W, Fr (fun _ => False) w W → W.cell? ⟨g, 0, none⟩ = some (.slice (some ⟨r, 0, none⟩) N cap) ∧ W.cell? ⟨r, i * 4, none⟩ = some (.int .i64 xn) ∧ W.cell? ⟨r, i * 4 + 1, none⟩ = some (.int .i64 xz) ∧ W.cell? ⟨r, i * 4 + 2, none⟩ = some (.int .i64 xr) ∧ W.cell? ⟨r, i * 4 + 3, none⟩ = some (.slice la Nl lc) ∧ ∀ q, W.frozen? ⟨r, q, none⟩ = false) := Lib.hid (fun W hf => by
    have := (hb.keep hf).cells hx
    rw [hN] at this
    dsimp only at this
    rw [hNl] at this
    exact this)
  have HOF := Lib.hid hOF
  clear h hb hbk hx hL hi hs hn hw hLO hof q1 q2 q3 q4 q5 hOF hKK hLE hcs hNl hN hgd hmd
  go_enter Tryz.func45, Tryz.ntmps45
  go_wp2_with (first
    | (go_at_call 34; refine hm.out.mono ?_; rintro e w1 ⟨rfl, rfl⟩)
    | (go_at_call 77; refine hfd.out.mono ?_; rintro e w2 ⟨rfl, hf2⟩; have HF2 := Lib.hid hf2; clear hf2)
    | (go_at_call 90; refine (hg.out _).mono ?_; rintro e w3 ⟨rfl, hf3⟩; have HF3 := Lib.hid (HF2.out.trans hf3); obtain ⟨c0, c1, c2, c3, c4, -⟩ := hcells.out w3 (HF2.out.trans hf3); clear hf3)
    | (go_at_call 91; refine (hM.out _).mono ?_; rintro e w4 ⟨rfl, rfl⟩)
    | (go_at_call 47; refine (hOf.out _ (HF3.out.alloc _)).mono ?_; rintro e w5 ⟨rfl, hf5⟩; have HF5 := Lib.hid ((HF3.out.alloc (.cells #[.int .i64 xn, .int .i64 xz, .int .i64 xr, .slice la Nl lc] 64)).trans hf5); have hbx := hf5.at_ (heap_new w3 (.cells #[.int .i64 xn, .int .i64 xz, .int .i64 xr, .slice la Nl lc] 64)) (fun e => e); have HB5 := Lib.hid hbx; have b0 := cell_obj hbx 0 (.int .i64 xn) rfl; have b1 := cell_obj hbx 1 (.int .i64 xz) rfl; have b2 := cell_obj hbx 2 (.int .i64 xr) rfl; have b3 := cell_obj hbx 3 (.slice la Nl lc) rfl; clear hf5 hbx c0 c1 c2 c3 c4)
    | (go_at_call 51; refine (hKD.out _ HF5.out).mono ?_; rintro e w6 ⟨rfl, hf6⟩; have HF6 := Lib.hid (HF5.out.trans hf6); have hbx := hf6.at_ HB5.out (fun e => e); have HB6 := Lib.hid hbx; have b0 := cell_obj hbx 0 (.int .i64 xn) rfl; have b1 := cell_obj hbx 1 (.int .i64 xz) rfl; have b2 := cell_obj hbx 2 (.int .i64 xr) rfl; have b3 := cell_obj hbx 3 (.slice la Nl lc) rfl; clear hf6 hbx))
  go_ret2
  exact ⟨rfl, HF6.out⟩
set_option maxRecDepth 100000 in
set_option maxHeartbeats 16000000 in
theorem bCount_left (w : World) (g : Nat) (TS : Nat → Prop) (L : List BV) (nu : Int) (s : Str) (n : Int) (h : FA w g TS L) (hL : 0 < L.length) {i : Nat} {x : BV} (hi : L.findIdx? (fun b => decide (b.nu = nu)) = some i) (hx : L[i]? = some x) (hs : okS s) (hn : okI n) (hgd : goodB s = true) (hmd : mayI n = true) (hw : BW s x.e) (hp : 0 < n) (hk : kindE x.e s ≠ 3) (hlf : leftE x.e + ofF x.its s < n) : Calls Tryz.prog 45 #[.pointer (some ⟨g, 0, none⟩), .int .i64 nu, vS s, .int .i64 n] w fun e w' => e = .returned (.tuple #[.int .i64 0, .int .i64 2]) ∧ Fr (fun _ => False) w w' := by
  have hm := Lib.hid (bMade w g L h.fl hL)
  have hfd := Lib.hid (bFind w g L nu h.fl hL)
  rw [findF_some hi] at hfd
  have hjn : ((i : Int) == -1) = false := beq_eq_false_iff_ne.2 (by omega)
  have hg := Lib.hid (fun W => iGood W s hs)
  have hM := Lib.hid (fun W => kMay W n)
  rw [hgd] at hg
  rw [hmd] at hM
  obtain ⟨r, cap, hb⟩ := h.fb
  have hbk := h.bok (List.mem_of_getElem? hx)
  have hOf := Lib.hid (fun W (hf : Fr (fun _ => False) w W) => iOf W x.l x.its s ((bokKeeps hbk hf (fun _ e => e.elim)).l))
  have hKD := Lib.hid (fun W (hf : Fr (fun _ => False) w W) => bKind W x s (bokKeeps hbk hf (fun _ e => e.elim)))
  have hLF := Lib.hid (fun W (hf : Fr (fun _ => False) w W) => bLeft W x (bokKeeps hbk hf (fun _ e => e.elim)))
  have hwt := Lib.hid (fun W (hf : Fr (fun _ => False) w W) => bWith W x s n (bokKeeps hbk hf (fun _ e => e.elim)) (by have h8 : x.its.length ≤ 17 := hw.len; omega) hw.ri hs hn)
  have hLO := hw.left
  have hof := hw.of s
  have q1 := hw.ro; have q2 := hw.tot; have q3 := sumI_nn hw.pos; have q4 := getI_nn s hw.pos; have q5 := getI_le s hw.pos
  rw [show x.e.its = x.its from rfl] at hof
  have hwr : IntKind.i64.wrap (leftE x.e + ofF x.its s) = leftE x.e + ofF x.its s := IntWalk.i64_in _ (by rw [hLO, hof]; show _ ∧ _; have : getI x.e.its s = getI x.its s := rfl; omega)
  have hwr2 : IntKind.i64.wrap (n - ofF x.its s) = n - ofF x.its s := IntWalk.i64_in _ (by rw [hof]; have : getI x.e.its s = getI x.its s := rfl; have := mayI_iff.1 hmd; omega)
  obtain ⟨OF, hOF⟩ : ∃ y, ofF x.its s = y := ⟨_, rfl⟩
  obtain ⟨KD, hKK⟩ : ∃ y, kindE x.e s = y := ⟨_, rfl⟩
  obtain ⟨LE, hLE⟩ : ∃ y, leftE x.e = y := ⟨_, rfl⟩
  rw [kindE_e, hKK] at hKD
  rw [leftE_e, hLE] at hLF
  rw [hOF] at hOf
  rw [hLE, hOF] at hwr
  rw [hOF] at hwr2
  rw [hKK] at hk
  rw [hLE, hOF] at hlf
  have hkb : (KD == 3) = false := by simpa using hk
  clear hk
  have hiN := (List.getElem?_eq_some_iff.1 hx).1
  have HBX := Lib.hid hbk; have HX := Lib.hid hx; have HFB := Lib.hid hb
  obtain ⟨xn, xz, xr, xl, xi⟩ := x
  obtain ⟨la, lc, hl⟩ := hbk.l.sl
  dsimp only at hl
  subst hl
  have hcs : BV.cs ⟨xn, xz, xr, .slice la xi.length lc, xi⟩ = #[.int .i64 xn, .int .i64 xz, .int .i64 xr, .slice la xi.length lc] := rfl
  rw [hcs] at hKD hLF hwt
  dsimp only at hOf
  have HPT : Hid (∀ v, BV.cs (BV.put ⟨xn, xz, xr, .slice la xi.length lc, xi⟩ v s n) = #[.int .i64 xn, .int .i64 xz, .int .i64 xr, v]) := Lib.hid (fun v => rfl)
  obtain ⟨Nl, hNl⟩ : ∃ y, xi.length = y := ⟨_, rfl⟩
  obtain ⟨N, hN⟩ : ∃ y, L.length = y := ⟨_, rfl⟩
  have HNl := Lib.hid hNl; have HN := Lib.hid hN
  rw [hNl] at hKD hLF hwt hOf
  rw [hN] at hiN
  have hiI : (i : Int) < N := by omega
  have hcells : Hid (∀ W, Fr (fun _ => False) w W → W.cell? ⟨g, 0, none⟩ = some (.slice (some ⟨r, 0, none⟩) N cap) ∧ W.cell? ⟨r, i * 4, none⟩ = some (.int .i64 xn) ∧ W.cell? ⟨r, i * 4 + 1, none⟩ = some (.int .i64 xz) ∧ W.cell? ⟨r, i * 4 + 2, none⟩ = some (.int .i64 xr) ∧ W.cell? ⟨r, i * 4 + 3, none⟩ = some (.slice la Nl lc) ∧ ∀ q, W.frozen? ⟨r, q, none⟩ = false) := Lib.hid (fun W hf => by
    have := (hb.keep hf).cells hx
    rw [hN] at this
    dsimp only at this
    rw [hNl] at this
    exact this)
  have HOF := Lib.hid hOF
  clear h hb hbk hx hL hi hs hn hw hLO hof q1 q2 q3 q4 q5 hOF hKK hLE hcs hNl hN hgd hmd
  go_enter Tryz.func45, Tryz.ntmps45
  go_wp2_with (first
    | (go_at_call 34; refine hm.out.mono ?_; rintro e w1 ⟨rfl, rfl⟩)
    | (go_at_call 77; refine hfd.out.mono ?_; rintro e w2 ⟨rfl, hf2⟩; have HF2 := Lib.hid hf2; clear hf2)
    | (go_at_call 90; refine (hg.out _).mono ?_; rintro e w3 ⟨rfl, hf3⟩; have HF3 := Lib.hid (HF2.out.trans hf3); obtain ⟨c0, c1, c2, c3, c4, -⟩ := hcells.out w3 (HF2.out.trans hf3); clear hf3)
    | (go_at_call 91; refine (hM.out _).mono ?_; rintro e w4 ⟨rfl, rfl⟩)
    | (go_at_call 47; refine (hOf.out _ (HF3.out.alloc _)).mono ?_; rintro e w5 ⟨rfl, hf5⟩; have HF5 := Lib.hid ((HF3.out.alloc (.cells #[.int .i64 xn, .int .i64 xz, .int .i64 xr, .slice la Nl lc] 64)).trans hf5); have hbx := hf5.at_ (heap_new w3 (.cells #[.int .i64 xn, .int .i64 xz, .int .i64 xr, .slice la Nl lc] 64)) (fun e => e); have HB5 := Lib.hid hbx; have b0 := cell_obj hbx 0 (.int .i64 xn) rfl; have b1 := cell_obj hbx 1 (.int .i64 xz) rfl; have b2 := cell_obj hbx 2 (.int .i64 xr) rfl; have b3 := cell_obj hbx 3 (.slice la Nl lc) rfl; clear hf5 hbx c0 c1 c2 c3 c4)
    | (go_at_call 51; refine (hKD.out _ HF5.out).mono ?_; rintro e w6 ⟨rfl, hf6⟩; have HF6 := Lib.hid (HF5.out.trans hf6); have hbx := hf6.at_ HB5.out (fun e => e); have HB6 := Lib.hid hbx; have b0 := cell_obj hbx 0 (.int .i64 xn) rfl; have b1 := cell_obj hbx 1 (.int .i64 xz) rfl; have b2 := cell_obj hbx 2 (.int .i64 xr) rfl; have b3 := cell_obj hbx 3 (.slice la Nl lc) rfl; clear hf6 hbx)
    | (go_at_call 24; refine (hLF.out _ HF6.out).mono ?_; rintro e w7 ⟨rfl, hf7⟩; have HF7 := Lib.hid (HF6.out.trans hf7); have hbx := hf7.at_ HB6.out (fun e => e); have HB7 := Lib.hid hbx; have b0 := cell_obj hbx 0 (.int .i64 xn) rfl; have b1 := cell_obj hbx 1 (.int .i64 xz) rfl; have b2 := cell_obj hbx 2 (.int .i64 xr) rfl; have b3 := cell_obj hbx 3 (.slice la Nl lc) rfl; clear hf7 hbx))
  go_ret2
  exact ⟨rfl, HF7.out⟩
set_option maxRecDepth 100000 in
set_option maxHeartbeats 16000000 in
theorem bCount_ok0 (w : World) (g : Nat) (TS : Nat → Prop) (L : List BV) (nu : Int) (s : Str) (n : Int) (h : FA w g TS L) (hL : 0 < L.length) {i : Nat} {x : BV} (hi : L.findIdx? (fun b => decide (b.nu = nu)) = some i) (hx : L[i]? = some x) (hs : okS s) (hn : okI n) (hgd : goodB s = true) (hmd : mayI n = true) (hw : BW s x.e) (hp : ¬ 0 < n) : Calls Tryz.prog 45 #[.pointer (some ⟨g, 0, none⟩), .int .i64 nu, vS s, .int .i64 n] w fun e w' => CtP w g TS (n - ofF x.its s, 0, (L.map BV.e).set i (x.e.put s n)) e w' := by
  have hm := Lib.hid (bMade w g L h.fl hL)
  have hfd := Lib.hid (bFind w g L nu h.fl hL)
  rw [findF_some hi] at hfd
  have hjn : ((i : Int) == -1) = false := beq_eq_false_iff_ne.2 (by omega)
  have hg := Lib.hid (fun W => iGood W s hs)
  have hM := Lib.hid (fun W => kMay W n)
  rw [hgd] at hg
  rw [hmd] at hM
  obtain ⟨r, cap, hb⟩ := h.fb
  have hbk := h.bok (List.mem_of_getElem? hx)
  have hOf := Lib.hid (fun W (hf : Fr (fun _ => False) w W) => iOf W x.l x.its s ((bokKeeps hbk hf (fun _ e => e.elim)).l))
  have hKD := Lib.hid (fun W (hf : Fr (fun _ => False) w W) => bKind W x s (bokKeeps hbk hf (fun _ e => e.elim)))
  have hLF := Lib.hid (fun W (hf : Fr (fun _ => False) w W) => bLeft W x (bokKeeps hbk hf (fun _ e => e.elim)))
  have hwt := Lib.hid (fun W (hf : Fr (fun _ => False) w W) => bWith W x s n (bokKeeps hbk hf (fun _ e => e.elim)) (by have h8 : x.its.length ≤ 17 := hw.len; omega) hw.ri hs hn)
  have hLO := hw.left
  have hof := hw.of s
  have q1 := hw.ro; have q2 := hw.tot; have q3 := sumI_nn hw.pos; have q4 := getI_nn s hw.pos; have q5 := getI_le s hw.pos
  rw [show x.e.its = x.its from rfl] at hof
  have hwr : IntKind.i64.wrap (leftE x.e + ofF x.its s) = leftE x.e + ofF x.its s := IntWalk.i64_in _ (by rw [hLO, hof]; show _ ∧ _; have : getI x.e.its s = getI x.its s := rfl; omega)
  have hwr2 : IntKind.i64.wrap (n - ofF x.its s) = n - ofF x.its s := IntWalk.i64_in _ (by rw [hof]; have : getI x.e.its s = getI x.its s := rfl; have := mayI_iff.1 hmd; omega)
  obtain ⟨OF, hOF⟩ : ∃ y, ofF x.its s = y := ⟨_, rfl⟩
  obtain ⟨KD, hKK⟩ : ∃ y, kindE x.e s = y := ⟨_, rfl⟩
  obtain ⟨LE, hLE⟩ : ∃ y, leftE x.e = y := ⟨_, rfl⟩
  rw [kindE_e, hKK] at hKD
  rw [leftE_e, hLE] at hLF
  rw [hOF] at hOf
  rw [hLE, hOF] at hwr
  rw [hOF] at hwr2
  have hiN := (List.getElem?_eq_some_iff.1 hx).1
  have HBX := Lib.hid hbk; have HX := Lib.hid hx; have HFB := Lib.hid hb
  obtain ⟨xn, xz, xr, xl, xi⟩ := x
  obtain ⟨la, lc, hl⟩ := hbk.l.sl
  dsimp only at hl
  subst hl
  have hcs : BV.cs ⟨xn, xz, xr, .slice la xi.length lc, xi⟩ = #[.int .i64 xn, .int .i64 xz, .int .i64 xr, .slice la xi.length lc] := rfl
  rw [hcs] at hKD hLF hwt
  dsimp only at hOf
  have HPT : Hid (∀ v, BV.cs (BV.put ⟨xn, xz, xr, .slice la xi.length lc, xi⟩ v s n) = #[.int .i64 xn, .int .i64 xz, .int .i64 xr, v]) := Lib.hid (fun v => rfl)
  obtain ⟨Nl, hNl⟩ : ∃ y, xi.length = y := ⟨_, rfl⟩
  obtain ⟨N, hN⟩ : ∃ y, L.length = y := ⟨_, rfl⟩
  have HNl := Lib.hid hNl; have HN := Lib.hid hN
  rw [hNl] at hKD hLF hwt hOf
  rw [hN] at hiN
  have hiI : (i : Int) < N := by omega
  have hcells : Hid (∀ W, Fr (fun _ => False) w W → W.cell? ⟨g, 0, none⟩ = some (.slice (some ⟨r, 0, none⟩) N cap) ∧ W.cell? ⟨r, i * 4, none⟩ = some (.int .i64 xn) ∧ W.cell? ⟨r, i * 4 + 1, none⟩ = some (.int .i64 xz) ∧ W.cell? ⟨r, i * 4 + 2, none⟩ = some (.int .i64 xr) ∧ W.cell? ⟨r, i * 4 + 3, none⟩ = some (.slice la Nl lc) ∧ ∀ q, W.frozen? ⟨r, q, none⟩ = false) := Lib.hid (fun W hf => by
    have := (hb.keep hf).cells hx
    rw [hN] at this
    dsimp only at this
    rw [hNl] at this
    exact this)
  have HOF := Lib.hid hOF
  clear h hb hbk hx hL hi hs hn hw hLO hof q1 q2 q3 q4 q5 hOF hKK hLE hcs hNl hN hgd hmd
  go_enter Tryz.func45, Tryz.ntmps45
  go_wp2_with (first
    | (go_at_call 34; refine hm.out.mono ?_; rintro e w1 ⟨rfl, rfl⟩)
    | (go_at_call 77; refine hfd.out.mono ?_; rintro e w2 ⟨rfl, hf2⟩; have HF2 := Lib.hid hf2; clear hf2)
    | (go_at_call 90; refine (hg.out _).mono ?_; rintro e w3 ⟨rfl, hf3⟩; have HF3 := Lib.hid (HF2.out.trans hf3); obtain ⟨c0, c1, c2, c3, c4, -⟩ := hcells.out w3 (HF2.out.trans hf3); clear hf3)
    | (go_at_call 91; refine (hM.out _).mono ?_; rintro e w4 ⟨rfl, rfl⟩)
    | (go_at_call 47; refine (hOf.out _ (HF3.out.alloc _)).mono ?_; rintro e w5 ⟨rfl, hf5⟩; have HF5 := Lib.hid ((HF3.out.alloc (.cells #[.int .i64 xn, .int .i64 xz, .int .i64 xr, .slice la Nl lc] 64)).trans hf5); have hbx := hf5.at_ (heap_new w3 (.cells #[.int .i64 xn, .int .i64 xz, .int .i64 xr, .slice la Nl lc] 64)) (fun e => e); have HB5 := Lib.hid hbx; have b0 := cell_obj hbx 0 (.int .i64 xn) rfl; have b1 := cell_obj hbx 1 (.int .i64 xz) rfl; have b2 := cell_obj hbx 2 (.int .i64 xr) rfl; have b3 := cell_obj hbx 3 (.slice la Nl lc) rfl; clear hf5 hbx c0 c1 c2 c3 c4))
  obtain ⟨bx, hbxe⟩ : ∃ b, w3.heap.size = b := ⟨_, rfl⟩
  rw [hbxe] at HB5 b0 b1 b2 b3 ⊢
  have HBXE := Lib.hid hbxe
  have hfb := HFB.out.keep HF5.out
  have hrlt : r < w5.heap.size ∧ g < w5.heap.size ∧ r ≠ g ∧ r < bx := by
    have h1 := hfb.lt r hfb.own.2.1; have h2 := hfb.lt g hfb.own.1
    have h3 := HFB.out.lt r HFB.out.own.2.1
    have h4 := HF3.out.size
    exact ⟨h1, h2, hfb.own.2.2, by omega⟩
  have HRLT := Lib.hid hrlt
  obtain ⟨d0, -⟩ := hcells.out w5 HF5.out
  have hall : Hid (∀ W, Fr (fun c => c = r) w5 W → W.cell? ⟨g, 0, none⟩ = some (.slice (some ⟨r, 0, none⟩) N cap) ∧ W.cell? ⟨bx, 0, none⟩ = some (.int .i64 xn) ∧ W.cell? ⟨bx, 1, none⟩ = some (.int .i64 xz) ∧ W.cell? ⟨bx, 2, none⟩ = some (.int .i64 xr) ∧ W.cell? ⟨bx, 3, none⟩ = some (.slice la Nl lc)) := Lib.hid (fun W hf => by
    have g1 : ¬ g = r := fun e => hrlt.2.2.1 e.symm
    have g2 : ¬ bx = r := by omega
    exact ⟨hf.cell d0 g1, hf.cell b0 g2, hf.cell b1 g2, hf.cell b2 g2, hf.cell b3 g2⟩)
  have HF := Lib.hid (Fr.refl (fun c => c = r) w5)
  have HX0 := Lib.hid (Fr.refl (fun _ => False) w5)
  clear hfb hrlt hbxe
  go_region_held3 (fun w' => w'.cell? ⟨g, 0, none⟩ = some (.slice (some ⟨r, 0, none⟩) N cap) ∧ w'.cell? ⟨bx, 0, none⟩ = some (.int .i64 xn) ∧ w'.cell? ⟨bx, 1, none⟩ = some (.int .i64 xz) ∧ w'.cell? ⟨bx, 2, none⟩ = some (.int .i64 xr) ∧ w'.cell? ⟨bx, 3, none⟩ = some (.slice la Nl lc))
    (first | exact hall.out _ HF.out | (refine hall.out _ ?_; exact (Fr.trans HF.out (by (repeat (first | (with_reducible assumption) | (with_reducible exact Fr.refl _ _) | (with_reducible refine Fr.alloc ?_ _) | (with_reducible refine Fr.drew ?_) | (refine Fr.setCell ?_ (by intro _; rfl) _)))))))
    ((go_at_call 56
      refine (hwt.out _ (HF5.out.trans (Fr.trans HX0.out (by (repeat (first | (with_reducible assumption) | (with_reducible exact Fr.refl _ _) | (with_reducible refine Fr.alloc ?_ _) | (with_reducible refine Fr.drew ?_) | (with_reducible refine Fr.setCell ?_ (fun h => absurd h (Nat.not_lt.2 ?_)) _) | (exact Nat.le_refl _) | (exact Fr.size (by assumption)))))))).mono ?_
      rintro e w8 ⟨v, rfl, hb8, hv8, hf8⟩
      dsimp only [BV.put, BV.cs]
      have hx8 := Fr.trans (Fr.trans HX0.out (by (repeat (first | (with_reducible assumption) | (with_reducible exact Fr.refl _ _) | (with_reducible refine Fr.alloc ?_ _) | (with_reducible refine Fr.drew ?_) | (with_reducible refine Fr.setCell ?_ (fun h => absurd h (Nat.not_lt.2 ?_)) _) | (exact Nat.le_refl _) | (exact Fr.size (by assumption)))))) hf8
      obtain ⟨va, vc, hve⟩ := hb8.l.sl
      dsimp only [BV.put] at hve
      subst hve
      have HV8 : Hid (∀ c, (Value.slice va (setF xi s n).length vc).ownBlock = some c → w5.heap.size ≤ c) := Lib.hid (fun c hc => Nat.le_trans (Fr.size (S := fun _ => False) (w := w5) (Fr.trans HX0.out (by (repeat (first | (with_reducible assumption) | (with_reducible exact Fr.refl _ _) | (with_reducible refine Fr.alloc ?_ _) | (with_reducible refine Fr.drew ?_) | (with_reducible refine Fr.setCell ?_ (fun h => absurd h (Nat.not_lt.2 ?_)) _) | (exact Nat.le_refl _) | (exact Fr.size (by assumption))))))) (hv8 c hc))
      obtain ⟨k0, k1, k2, k3, k4, kf⟩ := hcells.out w8 (HF5.out.trans hx8)
      have f0 := kf (i * 4); have f1 := kf (i * 4 + 1); have f2 := kf (i * 4 + 2); have f3 := kf (i * 4 + 3)
      have HB8 := Lib.hid hb8; have HX8 := Lib.hid hx8
      have HF := Lib.hid (hx8.mono (S' := fun c => c = r) (fun _ _ e => e.elim))
      clear hb8 hv8 hf8 hx8 kf))
  obtain ⟨hfa, hfr⟩ := (HFB.out.keep (HF5.out.trans HX8.out)).set (i := i) (b := BV.put ⟨xn, xz, xr, .slice la xi.length lc, xi⟩ (.slice va (setF xi s n).length vc) s n) (B := w.heap.size) HX.out HB8.out HFB.out.lt (fun c hc => by have h1 := HV8.out c hc; have h3 := HF5.out.size; omega)
  obtain ⟨W9, hW9⟩ : ∃ W, w8.setCells r (i * 4) (BV.cs (BV.put ⟨xn, xz, xr, .slice la xi.length lc, xi⟩ (.slice va (setF xi s n).length vc) s n)).toList = W := ⟨_, rfl⟩
  have hW8 : ((((w8.setCell ⟨r, i * 4, none⟩ (.int .i64 xn)).setCell ⟨r, i * 4 + 1, none⟩ (.int .i64 xz)).setCell ⟨r, i * 4 + 2, none⟩ (.int .i64 xr)).setCell ⟨r, i * 4 + 3, none⟩ (.slice va (setF xi s n).length vc)) = W9 := hW9
  rw [hW9] at hfa hfr
  have HFA9 := Lib.hid hfa; have HFR9 := Lib.hid hfr
  rw [hW8]
  clear hfa hfr k0 k1 k2 k3 k4 f0 f1 f2 f3 b0 b1 b2 b3 d0 hW9 hW8
  go_wp2_with fail
  go_ret2
  have hof2 := HOF.out
  refine ⟨by show _ = Ending.returned (.tuple #[.int .i64 (n - ofF xi s), .int .i64 0]); rw [hof2]; rfl, _, _, HFA9.out.fa, by rw [List.map_set]; rfl, (((HF5.out.trans HX8.out).mono (fun _ _ e => e.elim)).trans (HFR9.out.mono (fun c _ e => by rw [e]; exact HFB.out.own.2.1))), fun c hc => hc.imp id (fun h => h.1)⟩
set_option maxRecDepth 100000 in
set_option maxHeartbeats 16000000 in
theorem bCount_ok1 (w : World) (g : Nat) (TS : Nat → Prop) (L : List BV) (nu : Int) (s : Str) (n : Int) (h : FA w g TS L) (hL : 0 < L.length) {i : Nat} {x : BV} (hi : L.findIdx? (fun b => decide (b.nu = nu)) = some i) (hx : L[i]? = some x) (hs : okS s) (hn : okI n) (hgd : goodB s = true) (hmd : mayI n = true) (hw : BW s x.e) (hp : 0 < n) (hk : kindE x.e s ≠ 3) (hlf : ¬ leftE x.e + ofF x.its s < n) : Calls Tryz.prog 45 #[.pointer (some ⟨g, 0, none⟩), .int .i64 nu, vS s, .int .i64 n] w fun e w' => CtP w g TS (n - ofF x.its s, 0, (L.map BV.e).set i (x.e.put s n)) e w' := by
  have hm := Lib.hid (bMade w g L h.fl hL)
  have hfd := Lib.hid (bFind w g L nu h.fl hL)
  rw [findF_some hi] at hfd
  have hjn : ((i : Int) == -1) = false := beq_eq_false_iff_ne.2 (by omega)
  have hg := Lib.hid (fun W => iGood W s hs)
  have hM := Lib.hid (fun W => kMay W n)
  rw [hgd] at hg
  rw [hmd] at hM
  obtain ⟨r, cap, hb⟩ := h.fb
  have hbk := h.bok (List.mem_of_getElem? hx)
  have hOf := Lib.hid (fun W (hf : Fr (fun _ => False) w W) => iOf W x.l x.its s ((bokKeeps hbk hf (fun _ e => e.elim)).l))
  have hKD := Lib.hid (fun W (hf : Fr (fun _ => False) w W) => bKind W x s (bokKeeps hbk hf (fun _ e => e.elim)))
  have hLF := Lib.hid (fun W (hf : Fr (fun _ => False) w W) => bLeft W x (bokKeeps hbk hf (fun _ e => e.elim)))
  have hwt := Lib.hid (fun W (hf : Fr (fun _ => False) w W) => bWith W x s n (bokKeeps hbk hf (fun _ e => e.elim)) (by have h8 : x.its.length ≤ 17 := hw.len; omega) hw.ri hs hn)
  have hLO := hw.left
  have hof := hw.of s
  have q1 := hw.ro; have q2 := hw.tot; have q3 := sumI_nn hw.pos; have q4 := getI_nn s hw.pos; have q5 := getI_le s hw.pos
  rw [show x.e.its = x.its from rfl] at hof
  have hwr : IntKind.i64.wrap (leftE x.e + ofF x.its s) = leftE x.e + ofF x.its s := IntWalk.i64_in _ (by rw [hLO, hof]; show _ ∧ _; have : getI x.e.its s = getI x.its s := rfl; omega)
  have hwr2 : IntKind.i64.wrap (n - ofF x.its s) = n - ofF x.its s := IntWalk.i64_in _ (by rw [hof]; have : getI x.e.its s = getI x.its s := rfl; have := mayI_iff.1 hmd; omega)
  obtain ⟨OF, hOF⟩ : ∃ y, ofF x.its s = y := ⟨_, rfl⟩
  obtain ⟨KD, hKK⟩ : ∃ y, kindE x.e s = y := ⟨_, rfl⟩
  obtain ⟨LE, hLE⟩ : ∃ y, leftE x.e = y := ⟨_, rfl⟩
  rw [kindE_e, hKK] at hKD
  rw [leftE_e, hLE] at hLF
  rw [hOF] at hOf
  rw [hLE, hOF] at hwr
  rw [hOF] at hwr2
  rw [hKK] at hk
  rw [hLE, hOF] at hlf
  have hkb : (KD == 3) = false := by simpa using hk
  clear hk
  have hiN := (List.getElem?_eq_some_iff.1 hx).1
  have HBX := Lib.hid hbk; have HX := Lib.hid hx; have HFB := Lib.hid hb
  obtain ⟨xn, xz, xr, xl, xi⟩ := x
  obtain ⟨la, lc, hl⟩ := hbk.l.sl
  dsimp only at hl
  subst hl
  have hcs : BV.cs ⟨xn, xz, xr, .slice la xi.length lc, xi⟩ = #[.int .i64 xn, .int .i64 xz, .int .i64 xr, .slice la xi.length lc] := rfl
  rw [hcs] at hKD hLF hwt
  dsimp only at hOf
  have HPT : Hid (∀ v, BV.cs (BV.put ⟨xn, xz, xr, .slice la xi.length lc, xi⟩ v s n) = #[.int .i64 xn, .int .i64 xz, .int .i64 xr, v]) := Lib.hid (fun v => rfl)
  obtain ⟨Nl, hNl⟩ : ∃ y, xi.length = y := ⟨_, rfl⟩
  obtain ⟨N, hN⟩ : ∃ y, L.length = y := ⟨_, rfl⟩
  have HNl := Lib.hid hNl; have HN := Lib.hid hN
  rw [hNl] at hKD hLF hwt hOf
  rw [hN] at hiN
  have hiI : (i : Int) < N := by omega
  have hcells : Hid (∀ W, Fr (fun _ => False) w W → W.cell? ⟨g, 0, none⟩ = some (.slice (some ⟨r, 0, none⟩) N cap) ∧ W.cell? ⟨r, i * 4, none⟩ = some (.int .i64 xn) ∧ W.cell? ⟨r, i * 4 + 1, none⟩ = some (.int .i64 xz) ∧ W.cell? ⟨r, i * 4 + 2, none⟩ = some (.int .i64 xr) ∧ W.cell? ⟨r, i * 4 + 3, none⟩ = some (.slice la Nl lc) ∧ ∀ q, W.frozen? ⟨r, q, none⟩ = false) := Lib.hid (fun W hf => by
    have := (hb.keep hf).cells hx
    rw [hN] at this
    dsimp only at this
    rw [hNl] at this
    exact this)
  have HOF := Lib.hid hOF
  clear h hb hbk hx hL hi hs hn hw hLO hof q1 q2 q3 q4 q5 hOF hKK hLE hcs hNl hN hgd hmd
  go_enter Tryz.func45, Tryz.ntmps45
  go_wp2_with (first
    | (go_at_call 34; refine hm.out.mono ?_; rintro e w1 ⟨rfl, rfl⟩)
    | (go_at_call 77; refine hfd.out.mono ?_; rintro e w2 ⟨rfl, hf2⟩; have HF2 := Lib.hid hf2; clear hf2)
    | (go_at_call 90; refine (hg.out _).mono ?_; rintro e w3 ⟨rfl, hf3⟩; have HF3 := Lib.hid (HF2.out.trans hf3); obtain ⟨c0, c1, c2, c3, c4, -⟩ := hcells.out w3 (HF2.out.trans hf3); clear hf3)
    | (go_at_call 91; refine (hM.out _).mono ?_; rintro e w4 ⟨rfl, rfl⟩)
    | (go_at_call 47; refine (hOf.out _ (HF3.out.alloc _)).mono ?_; rintro e w5 ⟨rfl, hf5⟩; have HF5 := Lib.hid ((HF3.out.alloc (.cells #[.int .i64 xn, .int .i64 xz, .int .i64 xr, .slice la Nl lc] 64)).trans hf5); have hbx := hf5.at_ (heap_new w3 (.cells #[.int .i64 xn, .int .i64 xz, .int .i64 xr, .slice la Nl lc] 64)) (fun e => e); have HB5 := Lib.hid hbx; have b0 := cell_obj hbx 0 (.int .i64 xn) rfl; have b1 := cell_obj hbx 1 (.int .i64 xz) rfl; have b2 := cell_obj hbx 2 (.int .i64 xr) rfl; have b3 := cell_obj hbx 3 (.slice la Nl lc) rfl; clear hf5 hbx c0 c1 c2 c3 c4)
    | (go_at_call 51; refine (hKD.out _ HF5.out).mono ?_; rintro e w6 ⟨rfl, hf6⟩; have HF6 := Lib.hid (HF5.out.trans hf6); have hbx := hf6.at_ HB5.out (fun e => e); have HB6 := Lib.hid hbx; have b0 := cell_obj hbx 0 (.int .i64 xn) rfl; have b1 := cell_obj hbx 1 (.int .i64 xz) rfl; have b2 := cell_obj hbx 2 (.int .i64 xr) rfl; have b3 := cell_obj hbx 3 (.slice la Nl lc) rfl; clear hf6 hbx)
    | (go_at_call 24; refine (hLF.out _ HF6.out).mono ?_; rintro e w7 ⟨rfl, hf7⟩; have HF7 := Lib.hid (HF6.out.trans hf7); have hbx := hf7.at_ HB6.out (fun e => e); have HB7 := Lib.hid hbx; have b0 := cell_obj hbx 0 (.int .i64 xn) rfl; have b1 := cell_obj hbx 1 (.int .i64 xz) rfl; have b2 := cell_obj hbx 2 (.int .i64 xr) rfl; have b3 := cell_obj hbx 3 (.slice la Nl lc) rfl; clear hf7 hbx))
  obtain ⟨bx, hbxe⟩ : ∃ b, w3.heap.size = b := ⟨_, rfl⟩
  rw [hbxe] at HB7 b0 b1 b2 b3 ⊢
  have HBXE := Lib.hid hbxe
  have hfb := HFB.out.keep HF7.out
  have hrlt : r < w7.heap.size ∧ g < w7.heap.size ∧ r ≠ g ∧ r < bx := by
    have h1 := hfb.lt r hfb.own.2.1; have h2 := hfb.lt g hfb.own.1
    have h3 := HFB.out.lt r HFB.out.own.2.1
    have h4 := HF3.out.size
    exact ⟨h1, h2, hfb.own.2.2, by omega⟩
  have HRLT := Lib.hid hrlt
  obtain ⟨d0, -⟩ := hcells.out w7 HF7.out
  have hall : Hid (∀ W, Fr (fun c => c = r) w7 W → W.cell? ⟨g, 0, none⟩ = some (.slice (some ⟨r, 0, none⟩) N cap) ∧ W.cell? ⟨bx, 0, none⟩ = some (.int .i64 xn) ∧ W.cell? ⟨bx, 1, none⟩ = some (.int .i64 xz) ∧ W.cell? ⟨bx, 2, none⟩ = some (.int .i64 xr) ∧ W.cell? ⟨bx, 3, none⟩ = some (.slice la Nl lc)) := Lib.hid (fun W hf => by
    have g1 : ¬ g = r := fun e => hrlt.2.2.1 e.symm
    have g2 : ¬ bx = r := by omega
    exact ⟨hf.cell d0 g1, hf.cell b0 g2, hf.cell b1 g2, hf.cell b2 g2, hf.cell b3 g2⟩)
  have HF := Lib.hid (Fr.refl (fun c => c = r) w7)
  have HX0 := Lib.hid (Fr.refl (fun _ => False) w7)
  clear hfb hrlt hbxe
  go_region_held3 (fun w' => w'.cell? ⟨g, 0, none⟩ = some (.slice (some ⟨r, 0, none⟩) N cap) ∧ w'.cell? ⟨bx, 0, none⟩ = some (.int .i64 xn) ∧ w'.cell? ⟨bx, 1, none⟩ = some (.int .i64 xz) ∧ w'.cell? ⟨bx, 2, none⟩ = some (.int .i64 xr) ∧ w'.cell? ⟨bx, 3, none⟩ = some (.slice la Nl lc))
    (first | exact hall.out _ HF.out | (refine hall.out _ ?_; exact (Fr.trans HF.out (by (repeat (first | (with_reducible assumption) | (with_reducible exact Fr.refl _ _) | (with_reducible refine Fr.alloc ?_ _) | (with_reducible refine Fr.drew ?_) | (refine Fr.setCell ?_ (by intro _; rfl) _)))))))
    ((go_at_call 56
      refine (hwt.out _ (HF7.out.trans (Fr.trans HX0.out (by (repeat (first | (with_reducible assumption) | (with_reducible exact Fr.refl _ _) | (with_reducible refine Fr.alloc ?_ _) | (with_reducible refine Fr.drew ?_) | (with_reducible refine Fr.setCell ?_ (fun h => absurd h (Nat.not_lt.2 ?_)) _) | (exact Nat.le_refl _) | (exact Fr.size (by assumption)))))))).mono ?_
      rintro e w8 ⟨v, rfl, hb8, hv8, hf8⟩
      dsimp only [BV.put, BV.cs]
      have hx8 := Fr.trans (Fr.trans HX0.out (by (repeat (first | (with_reducible assumption) | (with_reducible exact Fr.refl _ _) | (with_reducible refine Fr.alloc ?_ _) | (with_reducible refine Fr.drew ?_) | (with_reducible refine Fr.setCell ?_ (fun h => absurd h (Nat.not_lt.2 ?_)) _) | (exact Nat.le_refl _) | (exact Fr.size (by assumption)))))) hf8
      obtain ⟨va, vc, hve⟩ := hb8.l.sl
      dsimp only [BV.put] at hve
      subst hve
      have HV8 : Hid (∀ c, (Value.slice va (setF xi s n).length vc).ownBlock = some c → w7.heap.size ≤ c) := Lib.hid (fun c hc => Nat.le_trans (Fr.size (S := fun _ => False) (w := w7) (Fr.trans HX0.out (by (repeat (first | (with_reducible assumption) | (with_reducible exact Fr.refl _ _) | (with_reducible refine Fr.alloc ?_ _) | (with_reducible refine Fr.drew ?_) | (with_reducible refine Fr.setCell ?_ (fun h => absurd h (Nat.not_lt.2 ?_)) _) | (exact Nat.le_refl _) | (exact Fr.size (by assumption))))))) (hv8 c hc))
      obtain ⟨k0, k1, k2, k3, k4, kf⟩ := hcells.out w8 (HF7.out.trans hx8)
      have f0 := kf (i * 4); have f1 := kf (i * 4 + 1); have f2 := kf (i * 4 + 2); have f3 := kf (i * 4 + 3)
      have HB8 := Lib.hid hb8; have HX8 := Lib.hid hx8
      have HF := Lib.hid (hx8.mono (S' := fun c => c = r) (fun _ _ e => e.elim))
      clear hb8 hv8 hf8 hx8 kf))
  obtain ⟨hfa, hfr⟩ := (HFB.out.keep (HF7.out.trans HX8.out)).set (i := i) (b := BV.put ⟨xn, xz, xr, .slice la xi.length lc, xi⟩ (.slice va (setF xi s n).length vc) s n) (B := w.heap.size) HX.out HB8.out HFB.out.lt (fun c hc => by have h1 := HV8.out c hc; have h3 := HF7.out.size; omega)
  obtain ⟨W9, hW9⟩ : ∃ W, w8.setCells r (i * 4) (BV.cs (BV.put ⟨xn, xz, xr, .slice la xi.length lc, xi⟩ (.slice va (setF xi s n).length vc) s n)).toList = W := ⟨_, rfl⟩
  have hW8 : ((((w8.setCell ⟨r, i * 4, none⟩ (.int .i64 xn)).setCell ⟨r, i * 4 + 1, none⟩ (.int .i64 xz)).setCell ⟨r, i * 4 + 2, none⟩ (.int .i64 xr)).setCell ⟨r, i * 4 + 3, none⟩ (.slice va (setF xi s n).length vc)) = W9 := hW9
  rw [hW9] at hfa hfr
  have HFA9 := Lib.hid hfa; have HFR9 := Lib.hid hfr
  rw [hW8]
  clear hfa hfr k0 k1 k2 k3 k4 f0 f1 f2 f3 b0 b1 b2 b3 d0 hW9 hW8
  go_wp2_with fail
  go_ret2
  have hof2 := HOF.out
  refine ⟨by show _ = Ending.returned (.tuple #[.int .i64 (n - ofF xi s), .int .i64 0]); rw [hof2]; rfl, _, _, HFA9.out.fa, by rw [List.map_set]; rfl, (((HF7.out.trans HX8.out).mono (fun _ _ e => e.elim)).trans (HFR9.out.mono (fun c _ e => by rw [e]; exact HFB.out.own.2.1))), fun c hc => hc.imp id (fun h => h.1)⟩
theorem bCount (w : World) (g : Nat) (TS : Nat → Prop) (L : List BV) (nu : Int) (s : Str) (n : Int) (h : FA w g TS L) (hok : ∀ x ∈ L.map BV.e, BEok x) (hL : 0 < L.length) (hs : okS s) (hn : okI n) :
    Calls Tryz.prog 45 #[.pointer (some ⟨g, 0, none⟩), .int .i64 nu, vS s, .int .i64 n] w fun e w' => CtP w g TS (countE (L.map BV.e) nu s n) e w' := by
  unfold countE
  rw [find_map]
  cases hi : L.findIdx? (fun b => decide (b.nu = nu)) with
  | none =>
    refine (bCount_find w g TS L nu s n h hL hi).mono ?_
    rintro e w' ⟨rfl, hf⟩
    exact CtP.same h hf
  | some i =>
    obtain ⟨hlt, -, -⟩ := List.findIdx?_eq_some_iff_getElem.1 hi
    have hx : L[i]? = some L[i] := List.getElem?_eq_getElem hlt
    generalize L[i] = x at hx
    have hxm : (L.map BV.e)[i]? = some x.e := by rw [List.getElem?_map, hx]; rfl
    have hw := (hok x.e (List.mem_of_getElem? hxm)).bw s
    dsimp only
    rw [hxm]
    dsimp only
    by_cases hgm : goodB s = true ∧ mayI n = true
    · rw [if_pos hgm]
      by_cases hp : 0 < n
      · by_cases hk : kindE x.e s = 3
        · rw [if_pos ⟨hp, .inl hk⟩]
          refine (bCount_kind w g TS L nu s n h hL hi hx hs hn hgm.1 hgm.2 hw hp hk).mono ?_
          rintro e w' ⟨rfl, hf⟩
          exact CtP.same h hf
        · by_cases hlf : leftE x.e + ofF x.its s < n
          · rw [if_pos ⟨hp, .inr hlf⟩]
            refine (bCount_left w g TS L nu s n h hL hi hx hs hn hgm.1 hgm.2 hw hp hk hlf).mono ?_
            rintro e w' ⟨rfl, hf⟩
            exact CtP.same h hf
          · rw [if_neg (fun q => q.2.elim hk hlf)]
            exact bCount_ok1 w g TS L nu s n h hL hi hx hs hn hgm.1 hgm.2 hw hp hk hlf
      · rw [if_neg (fun q => hp q.1)]
        exact bCount_ok0 w g TS L nu s n h hL hi hx hs hn hgm.1 hgm.2 hw hp
    · rw [if_neg hgm]
      refine (bCount_arg w g TS L nu s n h hL hi hs hgm).mono ?_
      rintro e w' ⟨rfl, hf⟩
      exact CtP.same h hf
end Go.Proofs.YtefjdcghdcbojaaGreat

