/- bins: Put, Take. -/
import Derived.Test.YtlniekobijcanaaGreatBinsRoutesM10
import Derived.Test.YtlniekobijcanaaGreatBinsRoutesM11
import Derived.Test.YtlniekobijcanaaGreatBinsRoutesM12
import Derived.Test.YtlniekobijcanaaGreatBinsRoutesM13
import Derived.Deep.QuietTactic
import Derived.Laws.EntriesVeiled
namespace Go.Proofs.YtlniekobijcanaaGreat
open Go.RowKit Go.Maps
theorem BEok.bw {x : BE} (h : BEok x) (s : Str) : BW s x := by
  have hm := h.may
  unfold mayL at hm
  simp only [Bool.and_eq_true, decide_eq_true_eq] at hm
  refine ⟨h.ro, (itsOk_rise hm.1).1, fun p hp => ?_, Nat.le_trans (List.length_filter_le _ _) hm.2, h.tot⟩
  obtain ⟨h1, h2, h3⟩ := itsOk_all hm.1 p hp
  have := mayI_iff.1 h3
  exact ⟨h1, h2, this.2⟩
theorem good_okS {s : Str} (h : goodB s = true) : okS s := by have := goodB_len h; unfold okS maxLen; omega
def putF (M : List BE) (s : Str) (n : Int) : List BE × Int × List PV := spF leftE (fun b k => ofF b.its s + k) s M n (ordI M (fun b => kindE b s != 3) (cfPut s))
def takeF (M : List BE) (s : Str) (n : Int) : List BE × Int × List PV := spF (fun b => ofF b.its s) (fun b k => ofF b.its s - k) s M n (ordI M (fun b => decide (0 < ofF b.its s)) (cfTake s))
/-- What Put and Take leave. -/
def PkP (w : World) (g : Nat) (TS : Nat → Prop) (err : Int) (F : List BE × Int × List PV) (e : Ending) (w' : World) : Prop :=
  (0 < F.2.1 ∧ e = .returned (.tuple #[.slice none 0 0, .int .i64 err]) ∧ Fr (fun _ => False) w w') ∨
  (F.2.1 ≤ 0 ∧ ∃ v L' TS', e = .returned (.tuple #[v, .int .i64 0]) ∧ Pl w' v F.2.2 ∧ (∀ b, v.ownBlock = some b → w.heap.size ≤ b) ∧ FA w' g TS' L' ∧ L'.map BV.e = F.1 ∧ Fr (fun c => c = g) w w' ∧ ∀ b, TS' b → TS b ∨ w.heap.size ≤ b)
theorem ordI_in {α : Type} {L : List α} {isF : α → Bool} {cf : α → α → Int} {x : Int} (h : x ∈ ordI L isF cf) : ∃ i : Nat, x = (i : Int) ∧ i < L.length := by
  obtain ⟨i, b, e, hi, _, _⟩ := idxK_mem ((stab_perm _ _).mem_iff.1 h)
  exact ⟨i, e, hi⟩
theorem ordI_len {α : Type} (L : List α) (isF : α → Bool) (cf : α → α → Int) : (ordI L isF cf).length ≤ L.length := by
  unfold ordI
  rw [stab_len]
  exact idxK_len _ _ _
theorem FA.bok {w : World} {g : Nat} {TS : Nat → Prop} {L : List BV} (h : FA w g TS L) {b : BV} (hb : b ∈ L) : BOk w b := by
  obtain ⟨⟨_, _, _, _, _, _, _, _, _, _, _, h9⟩, _, _⟩ := h
  exact (h9 b hb).1
theorem mayF_zero {s : Str} {n : Int} (h : mayF s n = 0) : goodB s = true ∧ 1 ≤ n ∧ n ≤ 1099511627776 := by
  unfold mayF at h
  by_cases e : goodB s = true ∧ 1 ≤ n ∧ mayI n = true
  · exact ⟨e.1, e.2.1, (mayI_iff.1 e.2.2).2⟩
  · rw [if_neg e] at h; omega
set_option maxRecDepth 100000 in
set_option maxHeartbeats 8000000 in
theorem bPut_no (w : World) (g : Nat) (TS : Nat → Prop) (L : List BV) (s : Str) (n : Int) (h : FA w g TS L) (hL : 0 < L.length) (hs : okS s) (hm : mayF s n ≠ 0) : Calls Tryz.prog 19 #[.pointer (some ⟨g, 0, none⟩), vS s, .int .i64 n] w fun e w' => e = .returned (.tuple #[.slice none 0 0, .int .i64 (mayF s n)]) ∧ Fr (fun _ => False) w w' := by
  have hf0 : Fr (fun _ => False) w (w.alloc (.cells #[vS s] 9)) := (Fr.refl _ w).alloc _
  have hM := Lib.hid (bMay _ g L s n (h.fl.keep hf0) hL hs)
  obtain ⟨E, hE⟩ : ∃ E, mayF s n = E := ⟨_, rfl⟩
  rw [hE] at hM hm ⊢
  have hb : (E != 0) = true := by simpa using hm
  have HF0 := Lib.hid hf0
  clear h hL hs hm hE hf0
  go_enter Tryz.func19, Tryz.ntmps19
  go_wp2_with (go_at_call 46; refine hM.out.mono ?_; rintro e w1 ⟨rfl, hf1⟩; have HF1 := Lib.hid (HF0.out.trans hf1); clear hf1)
  go_ret2
  exact ⟨rfl, HF1.out⟩
set_option maxRecDepth 100000 in
set_option maxHeartbeats 8000000 in
theorem bTake_no (w : World) (g : Nat) (TS : Nat → Prop) (L : List BV) (s : Str) (n : Int) (h : FA w g TS L) (hL : 0 < L.length) (hs : okS s) (hm : mayF s n ≠ 0) : Calls Tryz.prog 21 #[.pointer (some ⟨g, 0, none⟩), vS s, .int .i64 n] w fun e w' => e = .returned (.tuple #[.slice none 0 0, .int .i64 (mayF s n)]) ∧ Fr (fun _ => False) w w' := by
  have hf0 : Fr (fun _ => False) w (w.alloc (.cells #[vS s] 9)) := (Fr.refl _ w).alloc _
  have hM := Lib.hid (bMay _ g L s n (h.fl.keep hf0) hL hs)
  obtain ⟨E, hE⟩ : ∃ E, mayF s n = E := ⟨_, rfl⟩
  rw [hE] at hM hm ⊢
  have hb : (E != 0) = true := by simpa using hm
  have HF0 := Lib.hid hf0
  clear h hL hs hm hE hf0
  go_enter Tryz.func21, Tryz.ntmps21
  go_wp2_with (go_at_call 46; refine hM.out.mono ?_; rintro e w1 ⟨rfl, hf1⟩; have HF1 := Lib.hid (HF0.out.trans hf1); clear hf1)
  go_ret2
  exact ⟨rfl, HF1.out⟩
set_option maxRecDepth 100000 in
set_option maxHeartbeats 8000000 in
theorem bPut (w : World) (g : Nat) (TS : Nat → Prop) (L : List BV) (s : Str) (n : Int) (h : FA w g TS L) (hok : ∀ x ∈ L.map BV.e, BEok x) (hL : 0 < L.length) (hL2 : L.length ≤ 64) (hm : mayF s n = 0) : Calls Tryz.prog 19 #[.pointer (some ⟨g, 0, none⟩), vS s, .int .i64 n] w fun e w' => PkP w g TS 2 (putF (L.map BV.e) s n) e w' := by
  obtain ⟨hg, hn1, hn2⟩ := mayF_zero hm
  have hs := good_okS hg
  obtain ⟨n0, hn0⟩ : ∃ n0, w.heap.size = n0 := ⟨_, rfl⟩
  obtain ⟨W0, hW0⟩ : ∃ W0, w.alloc (.cells #[vS s] 9) = W0 := ⟨_, rfl⟩
  have hf0 : Fr (fun _ => False) w W0 := by rw [← hW0]; exact (Fr.refl _ w).alloc _
  have hx0 : W0.heap[n0]? = some (.cells #[vS s] 9) := by rw [← hW0]; exact heap_at hn0.symm _
  have hM := bMay _ g L s n (h.fl.keep hf0) hL hs
  rw [hm] at hM
  have HM := Lib.hid hM
  have hbw : ∀ b ∈ L, BW s b.e := fun b hb => (hok _ (List.mem_map.2 ⟨b, hb, rfl⟩)).bw s
  have hcell : ∀ W, Fr (fun _ => False) W0 W → W.cell? ⟨n0, 0, none⟩ = some (vS s) := fun W hf => hf.cell (cell_obj hx0 0 (vS s) rfl) (fun e => e)
  have HO := Lib.hid (fun W (hF : Fr (fun _ => False) W0 W) => bOrder W g 48 50 #[.pointer (some ⟨n0, 0, none⟩)] #[.pointer (some ⟨n0, 0, none⟩)] L (fun b => kindE b.e s != 3) (fun a b => cfPut s a.e b.e) (enters_of Tryz.func48 (by kernel_rfl) rfl) (enters_of Tryz.func50 (by kernel_rfl) rfl)
    (h.fl.keep (hf0.trans hF)) hL (by omega)
    (fun W' x hx hf => by
      have := bPut1 W' x s n0 (bokKeeps (h.bok hx) (hf0.trans (hF.trans hf)) (fun _ e => e.elim)) (hcell W' (hF.trans hf))
      simpa using this)
    (fun W' x y hx hy hf => by
      have := bPut2 W' x y s n0 (bokKeeps (h.bok hx) (hf0.trans (hF.trans hf)) (fun _ e => e.elim)) (bokKeeps (h.bok hy) (hf0.trans (hF.trans hf)) (fun _ e => e.elim)) (hcell W' (hF.trans hf))
      simpa using this)
    (swo_cfI (by
      have h0 := cfPut_swo s
      exact ⟨fun a => h0.irr a.e, fun a b c => h0.tr a.e b.e c.e, fun a b c => h0.ntr a.e b.e c.e⟩)) (fun x _ y _ => cfPut_in s x.e y.e))
  have HSP := Lib.hid (fun W vord (hF : Fr (fun _ => False) W0 W) (ho : Sn W vord (ordI L (fun b => kindE b.e s != 3) (fun a b => cfPut s a.e b.e))) => bSpread W g 52 54 TS #[] #[.pointer (some ⟨n0, 0, none⟩)] L s n vord (ordI L (fun b => kindE b.e s != 3) (fun a b => cfPut s a.e b.e)) leftE (fun b k => ofF b.its s + k) (BW s)
    (enters_of Tryz.func52 (by kernel_rfl) rfl) (enters_of Tryz.func54 (by kernel_rfl) rfl)
    (h.fr (hf0.trans hF) (fun _ _ e => e)) hL (by omega) hs (by unfold okI; omega) (by omega) ho (by have := ordI_len L (fun b : BV => kindE b.e s != 3) (fun a b => cfPut s a.e b.e); omega) (fun x hx => ordI_in hx) hbw
    (fun x hx => by
      rw [hx.left]
      have h1 := hx.ro; have h2 := hx.tot; have h3 := sumI_nn hx.pos
      unfold okI; omega)
    (fun x k hx h0 h1 h2 => by
      rw [hx.left] at h1
      have h3 := getI_nn s hx.pos
      rw [hx.of s]
      exact hx.put hg (by omega) (by omega))
    (fun W' x hf hb hx => by
      have := bLeft W' x hb
      simpa [leftE_e] using this)
    (fun W' x k hf hb hx h0 h1 h2 => by
      have hl := hx.left
      rw [hl] at h1
      have h3 := hx.ro; have h4 := sumI_nn hx.pos; have h5 := getI_nn s hx.pos; have h6 := getI_le s hx.pos; have h7 := hx.tot
      have := bPut3 W' x s k n0 hb (by have h8 : x.its.length ≤ 17 := hx.len; omega) hx.ri hs (by
        have h9 : ofF x.its s = getI x.its s := hx.of s
        have h10 : getI x.e.its s = getI x.its s := rfl
        rw [h9]; unfold okI; omega) (hcell W' (hF.trans hf))
      rw [show (#[.agg x.cs, .int .i64 k] ++ #[.pointer (some ⟨n0, 0, none⟩)] : Array Value) = #[.agg x.cs, .int .i64 k, .pointer (some ⟨n0, 0, none⟩)] from by simp]
      exact this))
  have HF0 := Lib.hid hf0
  have hput : putF (L.map BV.e) s n = spF leftE (fun b k => ofF b.its s + k) s (L.map BV.e) n (ordI L (fun b => kindE b.e s != 3) (fun a b => cfPut s a.e b.e)) := by unfold putF; rw [ordI_map]
  rw [hput]
  obtain ⟨F, hF⟩ : ∃ F, spF leftE (fun b k => ofF b.its s + k) s (L.map BV.e) n (ordI L (fun b => kindE b.e s != 3) (fun a b => cfPut s a.e b.e)) = F := ⟨_, rfl⟩
  rw [hF] at HSP ⊢
  obtain ⟨O, hO⟩ : ∃ O, ordI L (fun b => kindE b.e s != 3) (fun a b => cfPut s a.e b.e) = O := ⟨_, rfl⟩
  rw [hO] at HO HSP
  obtain ⟨PK, hPK⟩ : ∃ PK, PkP w g TS 2 F = PK := ⟨_, rfl⟩
  have HPK := Lib.hid hPK
  rw [hPK]
  have hx1 := cell_obj hx0 0 (vS s) rfl
  have HX0 := Lib.hid hx0
  clear h hok hL hL2 hm hg hn1 hn2 hs hM hbw hcell hput hF hO hPK hf0 hx0
  go_enter Tryz.func19, Tryz.ntmps19
  go_wp2_with (first
    | (go_at_call 46; refine HM.out.mono ?_; rintro e w1 ⟨rfl, hf1⟩; have HF1 := Lib.hid hf1; have hx1 := cell_obj (hf1.at_ HX0.out (fun e => e)) 0 (vS s) rfl; clear hf1)
    | (go_at_call 47; refine (HO.out _ HF1.out).mono ?_; rintro e w2 ⟨vo, rfl, hso, hov, hf2⟩; have HSO := Lib.hid hso; have HF2 := Lib.hid (HF1.out.trans hf2); have hx1 := cell_obj (hf2.at_ (HF1.out.at_ HX0.out (fun e => e)) (fun e => e)) 0 (vS s) rfl; clear hso hov hf2))
  refine (HSP.out w2 vo HF2.out HSO.out).mono ?_
  rintro e w4 (⟨hpos, rfl, hf4⟩ | ⟨hle, v, L', TS', rfl, hpl, hvo, hfa, hmap, hf4, hts⟩)
  · have HFF := Lib.hid (HF0.out.trans (HF2.out.trans hf4))
    have HPOS := Lib.hid hpos
    clear hpos hf4
    go_wp2_with fail
    rw [← HPK.out]
    exact .inl ⟨HPOS.out, rfl, HFF.out⟩
  · have hs2 := (HF0.out.trans HF2.out).size
    have HR := Lib.hid (show PkP w g TS 2 F (.returned (.tuple #[v, .int .i64 0])) w4 from .inr ⟨hle, v, L', TS', rfl, hpl, fun b hb => by have := hvo b hb; omega, hfa, hmap, ((HF0.out.trans HF2.out).mono (fun _ _ e => e.elim)).trans hf4, fun b hb => (hts b hb).imp id (fun h => by omega)⟩)
    clear hle hpl hvo hfa hmap hf4 hts hs2
    go_wp2_with fail
    rw [← HPK.out]
    exact HR.out
set_option maxRecDepth 100000 in
set_option maxHeartbeats 8000000 in
theorem bTake (w : World) (g : Nat) (TS : Nat → Prop) (L : List BV) (s : Str) (n : Int) (h : FA w g TS L) (hok : ∀ x ∈ L.map BV.e, BEok x) (hL : 0 < L.length) (hL2 : L.length ≤ 64) (hm : mayF s n = 0) : Calls Tryz.prog 21 #[.pointer (some ⟨g, 0, none⟩), vS s, .int .i64 n] w fun e w' => PkP w g TS 51 (takeF (L.map BV.e) s n) e w' := by
  obtain ⟨hg, hn1, hn2⟩ := mayF_zero hm
  have hs := good_okS hg
  obtain ⟨n0, hn0⟩ : ∃ n0, w.heap.size = n0 := ⟨_, rfl⟩
  obtain ⟨W0, hW0⟩ : ∃ W0, w.alloc (.cells #[vS s] 9) = W0 := ⟨_, rfl⟩
  have hf0 : Fr (fun _ => False) w W0 := by rw [← hW0]; exact (Fr.refl _ w).alloc _
  have hx0 : W0.heap[n0]? = some (.cells #[vS s] 9) := by rw [← hW0]; exact heap_at hn0.symm _
  have hM := bMay _ g L s n (h.fl.keep hf0) hL hs
  rw [hm] at hM
  have HM := Lib.hid hM
  have hbw : ∀ b ∈ L, BW s b.e := fun b hb => (hok _ (List.mem_map.2 ⟨b, hb, rfl⟩)).bw s
  have hcell : ∀ W, Fr (fun _ => False) W0 W → W.cell? ⟨n0, 0, none⟩ = some (vS s) := fun W hf => hf.cell (cell_obj hx0 0 (vS s) rfl) (fun e => e)
  have HO := Lib.hid (fun W b9 (hF : Fr (fun _ => False) W0 W) (h9 : W.cell? ⟨b9, 0, none⟩ = some (.func (.func 58) #[] #[.pointer (some ⟨n0, 0, none⟩)])) => bOrder W g 59 60 #[.pointer (some ⟨b9, 0, none⟩)] #[.pointer (some ⟨b9, 0, none⟩)] L (fun b => decide (0 < ofF b.e.its s)) (fun a b => cfTake s a.e b.e) (enters_of Tryz.func59 (by kernel_rfl) rfl) (enters_of Tryz.func60 (by kernel_rfl) rfl)
    (h.fl.keep (hf0.trans hF)) hL (by omega)
    (fun W' x hx hf => by
      have := bTk2 W' x s n0 b9 (bokKeeps (h.bok hx) (hf0.trans (hF.trans hf)) (fun _ e => e.elim)) (hcell W' (hF.trans hf)) (hf.cell h9 (fun e => e))
      exact this)
    (fun W' x y hx hy hf => by
      have := bTk3 W' x y s n0 b9 (bokKeeps (h.bok hx) (hf0.trans (hF.trans hf)) (fun _ e => e.elim)) (bokKeeps (h.bok hy) (hf0.trans (hF.trans hf)) (fun _ e => e.elim)) (hcell W' (hF.trans hf)) (hf.cell h9 (fun e => e))
      exact this)
    (swo_cfI (by
      have h0 := cfTake_swo s
      exact ⟨fun a => h0.irr a.e, fun a b c => h0.tr a.e b.e c.e, fun a b c => h0.ntr a.e b.e c.e⟩)) (fun x _ y _ => cfTake_in s x.e y.e))
  have HSP := Lib.hid (fun W b9 vord (hF : Fr (fun _ => False) W0 W) (h9 : W.cell? ⟨b9, 0, none⟩ = some (.func (.func 58) #[] #[.pointer (some ⟨n0, 0, none⟩)])) (ho : Sn W vord (ordI L (fun b => decide (0 < ofF b.e.its s)) (fun a b => cfTake s a.e b.e))) => bSpread W g 58 61 TS #[.pointer (some ⟨n0, 0, none⟩)] #[.pointer (some ⟨n0, 0, none⟩), .pointer (some ⟨b9, 0, none⟩)] L s n vord (ordI L (fun b => decide (0 < ofF b.e.its s)) (fun a b => cfTake s a.e b.e)) (fun b => ofF b.its s) (fun b k => ofF b.its s - k) (BW s)
    (enters_of Tryz.func58 (by kernel_rfl) rfl) (enters_of Tryz.func61 (by kernel_rfl) rfl)
    (h.fr (hf0.trans hF) (fun _ _ e => e)) hL (by omega) hs (by unfold okI; omega) (by omega) ho (by have := ordI_len L (fun b : BV => decide (0 < ofF b.e.its s)) (fun a b => cfTake s a.e b.e); omega) (fun x hx => ordI_in hx) hbw
    (fun x hx => by
      rw [hx.of s]
      have h1 := hx.ro; have h2 := hx.tot; have h3 := getI_nn s hx.pos; have h4 := getI_le s hx.pos
      unfold okI; omega)
    (fun x k hx h0 h1 h2 => by
      rw [hx.of s] at h1 ⊢
      have h3 := getI_le s hx.pos; have h4 := hx.tot; have h5 := getI_nn s hx.pos
      exact hx.put hg (by omega) (by omega))
    (fun W' x hf hb hx => by
      have := bTk1 W' x s n0 hb (hcell W' (hF.trans hf))
      exact this)
    (fun W' x k hf hb hx h0 h1 h2 => by
      rw [hx.of s] at h1
      have h3 := hx.ro; have h4 := sumI_nn hx.pos; have h5 := getI_nn s hx.pos; have h6 := getI_le s hx.pos; have h7 := hx.tot
      have := bTk4 W' x s k n0 b9 hb (by have h8 : x.its.length ≤ 17 := hx.len; omega) hx.ri hs (by
        have h9 : ofF x.its s = getI x.its s := hx.of s
        have h10 : getI x.e.its s = getI x.its s := rfl
        rw [h9]; unfold okI; omega) (hcell W' (hF.trans hf)) (hf.cell h9 (fun e => e))
      exact this))
  have HF0 := Lib.hid hf0
  have htk : takeF (L.map BV.e) s n = spF (fun b => ofF b.its s) (fun b k => ofF b.its s - k) s (L.map BV.e) n (ordI L (fun b => decide (0 < ofF b.e.its s)) (fun a b => cfTake s a.e b.e)) := by unfold takeF; rw [ordI_map]
  rw [htk]
  obtain ⟨F, hF⟩ : ∃ F, spF (fun b => ofF b.its s) (fun b k => ofF b.its s - k) s (L.map BV.e) n (ordI L (fun b => decide (0 < ofF b.e.its s)) (fun a b => cfTake s a.e b.e)) = F := ⟨_, rfl⟩
  rw [hF] at HSP ⊢
  obtain ⟨O, hO⟩ : ∃ O, ordI L (fun b => decide (0 < ofF b.e.its s)) (fun a b => cfTake s a.e b.e) = O := ⟨_, rfl⟩
  rw [hO] at HO HSP
  obtain ⟨PK, hPK⟩ : ∃ PK, PkP w g TS 51 F = PK := ⟨_, rfl⟩
  have HPK := Lib.hid hPK
  rw [hPK]
  have hx1 := cell_obj hx0 0 (vS s) rfl
  have HX0 := Lib.hid hx0
  clear h hok hL hL2 hm hg hn1 hn2 hs hM hbw hcell htk hF hO hPK hf0 hx0
  go_enter Tryz.func21, Tryz.ntmps21
  go_wp2_with (first
    | (go_at_call 46; refine HM.out.mono ?_; rintro e w1 ⟨rfl, hf1⟩; have HF1 := Lib.hid hf1; have hx1 := cell_obj (hf1.at_ HX0.out (fun e => e)) 0 (vS s) rfl; clear hf1)
    | (go_at_call 47; refine (HO.out _ w1.heap.size (HF1.out.alloc _) (cell_obj (heap_new _ _) 0 (.func (.func 58) #[] #[.pointer (some ⟨n0, 0, none⟩)]) rfl)).mono ?_; rintro e w2 ⟨vo, rfl, hso, hov, hf2⟩; have HSO := Lib.hid hso; have HF2 := Lib.hid ((HF1.out.alloc _).trans hf2); have hx1 := cell_obj (hf2.at_ ((HF1.out.alloc _).at_ HX0.out (fun e => e)) (fun e => e)) 0 (vS s) rfl; have h9' := hf2.cell (cell_obj (heap_new w1 (.cells #[(.func (.func 58) #[] #[.pointer (some ⟨n0, 0, none⟩)])] 94)) 0 (.func (.func 58) #[] #[.pointer (some ⟨n0, 0, none⟩)]) rfl) (fun e => e); have H9 := Lib.hid h9'; clear hso hov hf2))
  refine (HSP.out w2 w1.heap.size vo HF2.out H9.out HSO.out).mono ?_
  rintro e w4 (⟨hpos, rfl, hf4⟩ | ⟨hle, v, L', TS', rfl, hpl, hvo, hfa, hmap, hf4, hts⟩)
  · have HFF := Lib.hid (HF0.out.trans (HF2.out.trans hf4))
    have HPOS := Lib.hid hpos
    clear hpos hf4
    go_wp2_with fail
    rw [← HPK.out]
    exact .inl ⟨HPOS.out, rfl, HFF.out⟩
  · have hs2 := (HF0.out.trans HF2.out).size
    have HR := Lib.hid (show PkP w g TS 51 F (.returned (.tuple #[v, .int .i64 0])) w4 from .inr ⟨hle, v, L', TS', rfl, hpl, fun b hb => by have := hvo b hb; omega, hfa, hmap, ((HF0.out.trans HF2.out).mono (fun _ _ e => e.elim)).trans hf4, fun b hb => (hts b hb).imp id (fun h => by omega)⟩)
    clear hle hpl hvo hfa hmap hf4 hts hs2
    go_wp2_with fail
    rw [← HPK.out]
    exact HR.out
end Go.Proofs.YtlniekobijcanaaGreat
