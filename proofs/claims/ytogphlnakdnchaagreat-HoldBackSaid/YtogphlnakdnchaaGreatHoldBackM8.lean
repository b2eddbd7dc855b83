/- Texts of this claim, joined: hold: a shelf; entrepotref08: a shelf (that it answers; what its holds say is not asked): may, Hold, plus; entrepotref08: set (written by wip/tools/set8.py); Timers in the order in which they get due: plain facts on lists; no program in sight; hold: New, made, may, hold, set; no shelf; hold: set; hold, plainly: what is kept for each order; entrepotref08: what all methods share; Take; entrepotref08: Free, Pick, Unpick, Ship, Do (written by wip/tools/mv8.py); hold: all holds together: plainly; hold: Stock, Count, Do. -/
import Derived.Test.YtogphlnakdnchaaGreatHoldBackM1
import Derived.Test.YtogphlnakdnchaaGreatHoldBackM5
import Derived.Test.YtogphlnakdnchaaGreatHoldBackM7
import Derived.BigQuiet
import Derived.Handy
import Derived.Test.YtogphlnakdnchaaGreatHoldBackM2
namespace Go.Proofs.YtogphlnakdnchaaGreat
open Go.RowKit Go.Maps
/-- What is kept for an order: its three lists, where they lie and what they are. -/
structure HV where
  o : Int
  vh : Value
  vp : Value
  vs : Value
  he : Its
  pi : Its
  sh : Its
structure HE where
  o : Int
  he : Its
  pi : Its
  sh : Its
def HV.enc (h : HV) : Value := .agg #[.int .i64 h.o, h.vh, h.vp, h.vs]
def HV.e (h : HV) : HE := ⟨h.o, h.he, h.pi, h.sh⟩
/-- A list that lies in blocks of TB. -/
def Lb (W : World) (TB : Nat → Prop) (v : Value) (L : Its) : Prop := Il W v L ∧ (L ≠ [] → ∀ b, v.ownBlock = some b → TB b)
theorem Lb.keep {S TB : Nat → Prop} {W W' : World} {v : Value} {L : Its} (h : Lb W TB v L) (hf : Fr S W W') (hS : ∀ b, TB b → ¬ S b) : Lb W' TB v L :=
  ⟨h.1.keep hf (fun hn b hb => hS b (h.2 hn b hb)), h.2⟩
theorem Lb.mono {TB TB' : Nat → Prop} {W : World} {v : Value} {L : Its} (h : Lb W TB v L) (hT : ∀ b, TB b → TB' b) : Lb W TB' v L := ⟨h.1, fun hn b hb => hT b (h.2 hn b hb)⟩
structure HOk (W : World) (TB : Nat → Prop) (h : HV) : Prop where
  o : okI h.o
  lh : Lb W TB h.vh h.he
  lp : Lb W TB h.vp h.pi
  ls : Lb W TB h.vs h.sh
theorem HOk.keep {S TB : Nat → Prop} {W W' : World} {h : HV} (hk : HOk W TB h) (hf : Fr S W W') (hS : ∀ b, TB b → ¬ S b) : HOk W' TB h := ⟨hk.o, hk.lh.keep hf hS, hk.lp.keep hf hS, hk.ls.keep hf hS⟩
theorem HOk.mono {TB TB' : Nat → Prop} {W : World} {h : HV} (hk : HOk W TB h) (hT : ∀ b, TB b → TB' b) : HOk W TB' h := ⟨hk.o, hk.lh.mono hT, hk.lp.mono hT, hk.ls.mono hT⟩
/-- A shelf, its parts named: gs, T0 its stock's, m its map's block, TB the lists' blocks. -/
structure SB (W : World) (g gs m : Nat) (T0 TB : Nat → Prop) (A : Stk) (l : List (Int × HV)) : Prop where
  obj : W.heap[g]? = some (.cells #[.pointer (some ⟨gs, 0, none⟩), .map (some m)] 63)
  stk : SA W gs T0 A
  mp : Mp Tryz.prog W 3 ktI HV.enc m l
  rows : ∀ p ∈ l, p.1 = p.2.o ∧ HOk W TB p.2
  ng : ¬ T0 g ∧ ¬ TB g ∧ g ≠ m
  nm : ¬ T0 m ∧ ¬ TB m
  nb : ∀ b, TB b → ¬ T0 b
  ltb : ∀ b, TB b → b < W.heap.size
/-- A shelf as a thing of its own. -/
def SH (W : World) (g : Nat) (TS : Nat → Prop) (A : Stk) (l : List (Int × HV)) : Prop := ∃ gs m T0 TB, SB W g gs m T0 TB A l ∧ ∀ b, TS b ↔ (b = g ∨ b = m ∨ T0 b ∨ TB b)
section
variable {W W' : World} {g gs m : Nat} {T0 TB TS : Nat → Prop} {A : Stk} {l : List (Int × HV)}
theorem SB.lt (h : SB W g gs m T0 TB A l) : ∀ b, (b = g ∨ b = m ∨ T0 b ∨ TB b) → b < W.heap.size := fun b hb => by
  rcases hb with rfl | rfl | hb | hb
  · exact (Array.getElem?_eq_some_iff.1 h.obj).1
  · exact h.mp.lt
  · exact h.stk.lt b hb
  · exact h.ltb b hb
theorem SH.lt (h : SH W g TS A l) : ∀ b, TS b → b < W.heap.size := fun b hb => by
  obtain ⟨gs, m, T0, TB, h1, h2⟩ := h
  exact h1.lt b ((h2 b).1 hb)
theorem SB.keep {S : Nat → Prop} (h : SB W g gs m T0 TB A l) (hf : Fr S W W') (hS : ∀ b, (b = g ∨ b = m ∨ T0 b ∨ TB b) → ¬ S b) : SB W' g gs m T0 TB A l := by
  obtain ⟨h1, h2, h3, h4, h5, h6, h7, h8⟩ := h
  exact ⟨hf.at_ h1 (hS g (.inl rfl)), h2.fr hf (fun b hb => hS b (.inr (.inr (.inl hb)))), h3.at_ (hf.same m h3.lt (hS m (.inr (.inl rfl)))), fun p hp => ⟨(h4 p hp).1, (h4 p hp).2.keep hf (fun b hb => hS b (.inr (.inr (.inr hb))))⟩, h5, h6, h7, fun b hb => Nat.lt_of_lt_of_le (h8 b hb) hf.size⟩
theorem SH.keep {S : Nat → Prop} (h : SH W g TS A l) (hf : Fr S W W') (hS : ∀ b, TS b → ¬ S b) : SH W' g TS A l := by
  obtain ⟨gs, m, T0, TB, h1, h2⟩ := h
  exact ⟨gs, m, T0, TB, h1.keep hf (fun b hb => hS b ((h2 b).2 hb)), h2⟩
/-- The stock has turned. -/
theorem SB.stock {T0' : Nat → Prop} {A' : Stk} (h : SB W g gs m T0 TB A l) (hA : SA W' gs T0' A') (hs : Stp T0 W W' T0') : SB W' g gs m T0' TB A' l := by
  have hlt := h.lt
  obtain ⟨h1, h2, h3, h4, h5, h6, h7, h8⟩ := h
  have hn : ∀ b, b < W.heap.size → ¬ T0 b → ¬ T0' b := fun b hb h0 e => (hs.2 b e).elim h0 (fun e => by omega)
  exact ⟨hs.1.at_ h1 h5.1, hA, h3.at_ (hs.1.same m h3.lt h6.1), fun p hp => ⟨(h4 p hp).1, (h4 p hp).2.keep hs.1 h7⟩, ⟨hn g (hlt g (.inl rfl)) h5.1, h5.2⟩, ⟨hn m (hlt m (.inr (.inl rfl))) h6.1, h6.2⟩, fun b hb => hn b (h8 b hb) (h7 b hb), fun b hb => Nat.lt_of_lt_of_le (h8 b hb) hs.1.size⟩
/-- A hold is laid in the map. -/
theorem SB.put {TB' : Nat → Prop} {h' : HV} (h : SB W g gs m T0 TB A l) (hm : Mp Tryz.prog W' 3 ktI HV.enc m (putS ktI.lt l h'.o h')) (ht : W.mapTurned W' m) (hT : ∀ b, TB b → TB' b) (hk : HOk W TB' h') (hB : ∀ b, TB' b → b < W.heap.size ∧ ¬ T0 b ∧ b ≠ g ∧ b ≠ m) : SB W' g gs m T0 TB' A (putS ktI.lt l h'.o h') := by
  have hf : Fr (fun b => b = m) W W' := Fr.turned ht rfl
  obtain ⟨h1, h2, h3, h4, h5, h6, h7, h8⟩ := h
  refine ⟨hf.at_ h1 h5.2.2, h2.fr hf (fun b hb e => h6.1 (e ▸ hb)), hm, fun p hp => ?_, ⟨h5.1, fun e => (hB g e).2.2.1 rfl, h5.2.2⟩, ⟨h6.1, fun e => (hB m e).2.2.2 rfl⟩, fun b hb => (hB b hb).2.1, fun b hb => Nat.lt_of_lt_of_le (hB b hb).1 hf.size⟩
  rcases mem_putK.1 hp with rfl | ⟨hp, -⟩
  · exact ⟨rfl, hk.keep hf (fun b hb => (hB b hb).2.2.2)⟩
  · exact ⟨(h4 p hp).1, ((h4 p hp).2.mono hT).keep hf (fun b hb => (hB b hb).2.2.2)⟩
theorem SB.del {x : Int} (h : SB W g gs m T0 TB A l) (hm : Mp Tryz.prog W' 3 ktI HV.enc m (delS l x)) (ht : W.mapTurned W' m) : SB W' g gs m T0 TB A (delS l x) := by
  have hf : Fr (fun b => b = m) W W' := Fr.turned ht rfl
  obtain ⟨h1, h2, h3, h4, h5, h6, h7, h8⟩ := h
  refine ⟨hf.at_ h1 h5.2.2, h2.fr hf (fun b hb e => h6.1 (e ▸ hb)), hm, fun p hp => ?_, h5, h6, h7, fun b hb => Nat.lt_of_lt_of_le (h8 b hb) hf.size⟩
  have hp2 : p ∈ l := (List.mem_filter.1 hp).1
  exact ⟨(h4 p hp2).1, (h4 p hp2).2.keep hf (fun b hb e => h6.2 (e ▸ hb))⟩
end
end Go.Proofs.YtogphlnakdnchaaGreat

namespace Go.Proofs.YtogphlnakdnchaaGreat
open Go.RowKit Go.Maps
def hvC (h : HV) : List Value := [.int .i64 h.o, h.vh, h.vp, h.vs]
def hvs (L : List HV) : List Value := L.flatMap hvC
theorem hvs_app (A B : List HV) : hvs (A ++ B) = hvs A ++ hvs B := by simp [hvs]
theorem hvs_at : ∀ {A : List HV} {k : Nat} {p : HV}, A[k]? = some p → ∀ (j : Nat) (u : Value), (hvC p)[j]? = some u → (hvs A)[k * 4 + j]? = some u
  | [], k, p, h, j, u, hj => by simp at h
  | q :: r, 0, p, h, j, u, hj => by
    simp at h
    subst h
    show (hvC q ++ hvs r)[0 * 4 + j]? = some u
    rw [show 0 * 4 + j = j by omega, List.getElem?_append_left (List.getElem?_eq_some_iff.1 hj).1]
    exact hj
  | q :: r, k + 1, p, h, j, u, hj => by
    have := hvs_at (A := r) (k := k) (p := p) (by simpa using h) j u hj
    show (hvC q ++ hvs r)[(k + 1) * 4 + j]? = some u
    rw [List.getElem?_append_right (by show 4 ≤ _; omega), show (k + 1) * 4 + j - (hvC q).length = k * 4 + j by show (k + 1) * 4 + j - 4 = _; omega]
    exact this
theorem infoHold8 : (Tryz.prog.info? 37).map (fun i => (i.zero, i.size, i.bytes)) = some (some (.agg #[.int .i64 0, .slice none 0 0, .slice none 0 0, .slice none 0 0]), 4, 80) := by kernel_rfl
/-- A hold that may be kept: its lists lie in blocks of TB, and are short. -/
structure Kp (w : World) (TB : Nat → Prop) (h : HV) : Prop where
  ok : HOk w TB h
  he : h.he.length ≤ 16
  pi : h.pi.length ≤ 16
  sh : h.sh.length ≤ 16
theorem Kp.keep {S TB : Nat → Prop} {W W' : World} {h : HV} (hk : Kp W TB h) (hf : Fr S W W') (hS : ∀ b, TB b → ¬ S b) : Kp W' TB h := ⟨hk.ok.keep hf hS, hk.he, hk.pi, hk.sh⟩
theorem Kp.mono {TB TB' : Nat → Prop} {W : World} {h : HV} (hk : Kp W TB h) (hT : ∀ b, TB b → TB' b) : Kp W TB' h := ⟨hk.ok.mono hT, hk.he, hk.pi, hk.sh⟩
theorem Kp.enc {W : World} {TB : Nat → Prop} {h : HV} (hk : Kp W TB h) : ∃ a1 c1 a2 c2 a3 c3, h.vh = .slice a1 h.he.length c1 ∧ h.vp = .slice a2 h.pi.length c2 ∧ h.vs = .slice a3 h.sh.length c3 := by
  obtain ⟨a1, c1, e1⟩ := hk.ok.lh.1.sl
  obtain ⟨a2, c2, e2⟩ := hk.ok.lp.1.sl
  obtain ⟨a3, c3, e3⟩ := hk.ok.ls.1.sl
  exact ⟨a1, c1, a2, c2, a3, c3, e1, e2, e3⟩
theorem hv_one {W : World} {TB : Nat → Prop} {h : HV} (hk : Kp W TB h) {u : Value} (hu : u ∈ hvC h) : u.oneCell' = true := by
  obtain ⟨a1, c1, a2, c2, a3, c3, e1, e2, e3⟩ := hk.enc
  unfold hvC at hu
  rw [e1, e2, e3] at hu
  simp only [List.mem_cons, List.not_mem_nil, or_false] at hu
  rcases hu with rfl | rfl | rfl | rfl <;> rfl
/-- The document's shelf at g, its parts named: T0 the stock's blocks (g too), TL the holds' and their lists'. -/
structure XS (w : World) (g : Nat) (T0 TL : Nat → Prop) (A : Stk) (L : List HV) (vL : Value) : Prop where
  rs : RSX ([vL], 46) w g T0 A
  ok : SOk A
  row : w.ownsRow 0 37 4 vL L.length (hvs L)
  own : ∀ b, vL.ownBlock = some b → TL b
  hv : ∀ h ∈ L, Kp w TL h
  no : ∀ b, TL b → ¬ T0 b
  lt : ∀ b, TL b → b < w.heap.size
section
variable {w w' : World} {g : Nat} {T0 TL : Nat → Prop} {A : Stk} {L : List HV} {vL : Value}
theorem XS.keep {S : Nat → Prop} (h : XS w g T0 TL A L vL) (hf : Fr S w w') (hS : ∀ b, T0 b ∨ TL b → ¬ S b) : XS w' g T0 TL A L vL :=
  ⟨h.rs.fr hf (fun b hb => hS b (.inl hb)), h.ok, hf.row h.row (fun b hb => hS b (.inr (h.own b hb))), h.own, fun x hx => (h.hv x hx).keep hf (fun b hb => hS b (.inr hb)), h.no, fun b hb => Nat.lt_of_lt_of_le (h.lt b hb) hf.size⟩
/-- The stock has turned. -/
theorem XS.stock {T0' : Nat → Prop} {A' : Stk} (h : XS w g T0 TL A L vL) (hr : RSX ([vL], 46) w' g T0' A') (hA : SOk A') (hs : Stp T0 w w' T0') : XS w' g T0' TL A' L vL :=
  ⟨hr, hA, hs.1.row h.row (fun b hb => h.no b (h.own b hb)), h.own, fun x hx => (h.hv x hx).keep hs.1 h.no, fun b hb e => (hs.2 b e).elim (h.no b hb) (fun e => by have := h.lt b hb; omega), fun b hb => Nat.lt_of_lt_of_le (h.lt b hb) hs.1.size⟩
theorem XS.cells (h : XS w g T0 TL A L vL) : ∃ a c, vL = .slice a L.length c ∧ w.cell? ⟨g, 1, none⟩ = some (.slice a L.length c) ∧ ∀ (k : Nat) (p : HV), L[k]? = some p → ∃ gp, a = some ⟨gp, 0, none⟩ ∧ ∀ (j : Nat) (u : Value), (hvC p)[j]? = some u → w.cell? ⟨gp, k * 4 + j, none⟩ = some u := by
  obtain ⟨a, c, e⟩ := row_sl h.row
  obtain ⟨v, h1, -⟩ := h.rs.ex
  refine ⟨a, c, e, by rw [← e]; exact cell_obj h1 1 _ rfl, fun k p hp => ?_⟩
  have hk : k < L.length := (List.getElem?_eq_some_iff.1 hp).1
  have hr := h.row
  rw [e] at hr
  obtain ⟨gp, ea, -, -⟩ := row_addr hr (by omega)
  refine ⟨gp, ea, fun j u hu => ?_⟩
  obtain ⟨ad, e2, hc⟩ := (Rd.own hr).at_ (by omega) (hvs_at hp j u hu)
  rw [ea] at e2
  cases e2
  rw [addk] at hc
  exact hc
end
/-- Nothing is kept. -/
def noHold (o : Int) : HV := ⟨o, .slice none 0 0, .slice none 0 0, .slice none 0 0, [], [], []⟩
theorem nilIl (W : World) : Il W (.slice none 0 0) [] := ⟨Nat.zero_le _, none, 0, rfl, fun i p hp => by simp at hp⟩
theorem noHold_kp (W : World) (TB : Nat → Prop) {o : Int} (ho : okI o) : Kp W TB (noHold o) :=
  ⟨⟨ho, ⟨nilIl W, fun h => absurd rfl h⟩, ⟨nilIl W, fun h => absurd rfl h⟩, ⟨nilIl W, fun h => absurd rfl h⟩⟩, Nat.zero_le _, Nat.zero_le _, Nat.zero_le _⟩
def mayR (o : Int) : Bool := decide (1 ≤ o) && decide (o ≤ 1099511627776)
theorem r8may (w : World) (o : Int) : Calls Tryz.prog 77 #[.int .i64 o] w fun e w' => e = .returned (.bool (mayR o)) ∧ w = w' := by
  unfold mayR
  rcases (by omega : o < 1 ∨ (1 ≤ o ∧ 1099511627776 < o) ∨ (1 ≤ o ∧ o ≤ 1099511627776)) with h | ⟨h, h'⟩ | ⟨h, h'⟩
  · have q : ¬ 1 ≤ o := by omega
    go_enter Tryz.func77, Tryz.ntmps77
    go_wp2
    go_ret
    exact ⟨by simp; omega, rfl⟩
  · have q : ¬ o ≤ 1099511627776 := by omega
    go_enter Tryz.func77, Tryz.ntmps77
    go_wp2
    go_ret
    exact ⟨by simp; omega, rfl⟩
  · go_enter Tryz.func77, Tryz.ntmps77
    go_wp2
    go_ret
    exact ⟨by simp; omega, rfl⟩
set_option maxRecDepth 100000 in
set_option maxHeartbeats 8000000 in
theorem r8plus (w : World) (va vb : Value) (A B : Its) (hA : Il w va A) (hB : Il w vb B) (lA : A.length ≤ 16) (lB : B.length ≤ 16) : Calls Tryz.prog 81 #[va, vb] w (NormP w) := by
  obtain ⟨i0, hi', hz0, hz1, hz2⟩ := info_parts infoItem
  obtain ⟨aa, ca, rfl⟩ := hA.sl
  obtain ⟨ab, cb, rfl⟩ := hB.sl
  have hokA : ∀ p ∈ A, okS p.1 ∧ okI p.2 := fun p hp => il_okm' hA hp
  have hokB : ∀ p ∈ B, okS p.1 ∧ okI p.2 := fun p hp => il_okm' hB hp
  have HOK : Hid (∀ p ∈ A ++ B, okS p.1 ∧ okI p.2) := Lib.hid (fun p hp => (List.mem_append.1 hp).elim (hokA p) (hokB p))
  obtain ⟨M, hM⟩ : ∃ M, B.length = M := ⟨_, rfl⟩
  obtain ⟨N, hN⟩ : ∃ N, A.length = N := ⟨_, rfl⟩
  have hra := il_rd hA
  have hrb := il_rd hB
  rw [hN] at hA lA hra ⊢
  rw [hM] at hB lB hrb ⊢
  have HRA := Lib.hid hra; have HRB := Lib.hid hrb
  have HA := Lib.hid hA; have HB := Lib.hid hB; have HN := Lib.hid hN; have HM := Lib.hid hM
  have HBA : Hid (∀ ad, ab = some ad → 0 < M → ad.block < w.heap.size) := Lib.hid (fun ad e h0 => by
    refine HB.out.lt ?_ _ (by rw [e]; rfl)
    intro e0
    rw [e0] at hM
    simp at hM
    omega)
  have HONE : Hid (∀ S : Its, ∀ u ∈ itCs S, u.oneCell' = true) := Lib.hid (fun S u hu => itCs_one hu)
  clear hA hB hN hM hokA hokB hra hrb
  go_enter Tryz.func81, Tryz.ntmps81
  go_wp2_with (first
    | (at_builtin; refine wpList_append_src rfl (.tmp 6) (.tmp 7) 27 rfl w.heap.size 65 i0 (.agg #[.string ⟨#[]⟩, .int .i64 0]) 24 Tryz.underlying27 hi' hz0 hz1 hz2 rfl (by decide) _ 0 [] rfl (own_none (Nat.le_refl _)) ca rfl (HRA.out.fr ((Fr.refl (fun _ => False) w).alloc (.cells #[] 65)) (fun _ _ h => h)) (HONE.out _) (by unfold maxLen; omega) (by omega) (by simp) ?_; intro v1 w1 hown1 hgrow1 hloc1; have hF1 : Fr (fun b => w.heap.size ≤ b) w w1 := Fr.trans ((Fr.refl _ w).alloc (.cells #[] 65)) (Fr.grown hgrow1 (by intro r hr _; cases hr; exact Nat.le_refl _)); rw [Nat.zero_add, List.nil_append] at hown1; obtain ⟨a1, c1, rfl⟩ := row_sl hown1; have HF1 := Lib.hid hF1; have HO1 := Lib.hid hown1; clear hF1 hown1 hgrow1 hloc1; have HRB1 : Hid (Rd w1 2 ab M (itCs B)) := Lib.hid (by
        by_cases h0 : 0 < M
        · exact HRB.out.fr HF1.out (fun ad e hh => by have := HBA.out ad e h0; omega)
        · exact ⟨HRB.out.1, fun h => absurd h h0⟩))
    | (at_builtin; refine wpList_append_src rfl (.tmp 8) (.tmp 9) 27 rfl w.heap.size 65 i0 (.agg #[.string ⟨#[]⟩, .int .i64 0]) 24 Tryz.underlying27 hi' hz0 hz1 hz2 rfl (by decide) (.slice a1 N c1) N (itCs A) rfl HO1.out cb rfl HRB1.out (HONE.out _) (by unfold maxLen; omega) (by omega) HF1.out.size ?_; intro v2 w2 hown2 hgrow2 hloc2; have hF2 : Fr (fun b => w.heap.size ≤ b) w w2 := Fr.trans HF1.out (Fr.grown hgrow2 (by intro r hr _; exact (HO1.out.lt r hr).1)); obtain ⟨a2, c2, rfl⟩ := row_sl hown2; have HF2 := Lib.hid hF2; have HO2 := Lib.hid hown2; clear hF2 hown2 hgrow2 hloc2)
    | (go_at_call 109; refine (r6Norm _ _ (A ++ B) (by have h := HO2.out; have e : (A ++ B).length = N + M := (by rw [List.length_append, HN.out, HM.out]); rw [← itCs_app, ← e] at h; have := (Il.own h HOK.out).1; rw [e] at this; exact this) (by rw [List.length_append, HN.out, HM.out]; omega)).mono ?_; rintro e w3 ⟨v3, L3, c3, rfl, hi3, hb3, hl3, hf3⟩; have HI3 := Lib.hid hi3; have HB3 := Lib.hid hb3; have HL3 := Lib.hid hl3; have HF3 := Lib.hid hf3; clear hi3 hb3 hl3 hf3))
  go_returns
  exact ⟨_, L3, _, rfl, HI3.out, fun b hb => ⟨Nat.le_trans HF2.out.size (HB3.out b hb).1, (HB3.out b hb).2⟩, HL3.out, ((HF2.out.trans (HF3.out.mono (fun _ _ e => e.elim))).mono (fun b hb e => by omega))⟩
structure HdP (w : World) (TL : Nat → Prop) (e : Ending) (w' : World) : Prop where
  ex : ∃ x b, e = .returned (.tuple #[x.enc, .bool b]) ∧ Kp w' TL x ∧ Fr (fun _ => False) w w'
set_option maxRecDepth 100000 in
set_option maxHeartbeats 8000000 in
theorem r8Hold (w : World) (g : Nat) (T0 TL : Nat → Prop) (A : Stk) (L : List HV) (vL : Value) (o : Int) (h : XS w g T0 TL A L vL) (ho : okI o) (hl : (L.length : Int) ≤ 1000000) :
    Calls Tryz.prog 79 #[.pointer (some ⟨g, 0, none⟩), .int .i64 o] w (HdP w TL) := by
  obtain ⟨n0, hn0⟩ : ∃ n0, w.heap.size = n0 := ⟨_, rfl⟩
  obtain ⟨W0, hW0⟩ : ∃ W0, w.alloc (.cells #[.int .i64 0, .slice none 0 0, .slice none 0 0, .slice none 0 0] 37) = W0 := ⟨_, rfl⟩
  have hF0 : Fr (fun _ => False) w W0 := by rw [← hW0]; exact (Fr.refl _ w).alloc _
  have hB0 : W0.heap[n0]? = some (.cells #[.int .i64 0, .slice none 0 0, .slice none 0 0, .slice none 0 0] 37) := by rw [← hW0, ← hn0]; exact heap_new _ _
  have hX0 := h.keep hF0 (fun _ _ e => e)
  obtain ⟨a, c, e, c1, hc⟩ := hX0.cells
  obtain ⟨N, hN⟩ : ∃ N, L.length = N := ⟨_, rfl⟩
  rw [hN] at c1 hl
  have HX0 := Lib.hid hX0; have HC := Lib.hid hc; have HN := Lib.hid hN; have HF0 := Lib.hid hF0; have HB0 := Lib.hid hB0; have HO := Lib.hid ho
  have hnlt : Hid (n0 = w.heap.size) := Lib.hid hn0.symm
  have HLT := Lib.hid h.lt
  clear h hX0 hc hN hF0 hB0 e ho
  have y0 := cell_obj HB0.out 0 _ rfl
  have y1 := cell_obj HB0.out 1 _ rfl
  have y2 := cell_obj HB0.out 2 _ rfl
  have y3 := cell_obj HB0.out 3 _ rfl
  have z0 := obj_frozen HB0.out 0
  have z1 := obj_frozen HB0.out 1
  have z2 := obj_frozen HB0.out 2
  have z3 := obj_frozen HB0.out 3
  go_enter Tryz.func79, Tryz.ntmps79
  go_wp2_with fail
  try rw [hW0]
  try rw [hn0]
  clear hW0 hn0
  go_loopw [6] (fun i wr => ∃ k : Nat, k ≤ N ∧ i = .int .i64 k ∧ wr = W0) (fun i _ => N - (intOf i).toNat)
  case atStart => exact ⟨0, Nat.zero_le _, rfl, rfl⟩
  case round =>
    obtain ⟨k, hk, rfl, rfl⟩ := hrel
    have hfin : Hid (∀ u0 u1 u2 u3, ∃ W', (((wr.setCell ⟨n0, 0, none⟩ u0).setCell ⟨n0, 1, none⟩ u1).setCell ⟨n0, 2, none⟩ u2).setCell ⟨n0, 3, none⟩ u3 = W' ∧ W'.cell? ⟨n0, 0, none⟩ = some u0 ∧ W'.cell? ⟨n0, 1, none⟩ = some u1 ∧ W'.cell? ⟨n0, 2, none⟩ = some u2 ∧ W'.cell? ⟨n0, 3, none⟩ = some u3 ∧ Fr (fun _ => False) w W' ∧ Fr (fun b => b = n0) wr W') := Lib.hid (fun u0 u1 u2 u3 => by
      have h4 := obj_set (obj_set (obj_set (obj_set HB0.out 0 u0) 1 u1) 2 u2) 3 u3
      have f1 : Fr (fun x => x = n0) wr _ := (Fr.refl (fun x => x = n0) wr).setCell (p := ⟨n0, 0, none⟩) (fun _ => rfl) u0
      have f2 : Fr (fun x => x = n0) wr _ := f1.setCell (p := ⟨n0, 1, none⟩) (fun _ => rfl) u1
      have f3 : Fr (fun x => x = n0) wr _ := f2.setCell (p := ⟨n0, 2, none⟩) (fun _ => rfl) u2
      have f4 : Fr (fun x => x = n0) wr _ := f3.setCell (p := ⟨n0, 3, none⟩) (fun _ => rfl) u3
      exact ⟨_, rfl, cell_obj h4 0 _ rfl, cell_obj h4 1 _ rfl, cell_obj h4 2 _ rfl, cell_obj h4 3 _ rfl, HF0.out.trans' f4 (fun b hb e => by have := hnlt.out; omega), f4⟩)
    have hne : Hid (∀ b, TL b → ¬ b = n0) := Lib.hid (fun b hb e => by have := HLT.out b hb; have := hnlt.out; omega)
    by_cases hlt : k < N
    · obtain ⟨p, hp⟩ : ∃ p, L[k]? = some p := ⟨L[k]'(by rw [HN.out]; exact hlt), List.getElem?_eq_getElem _⟩
      obtain ⟨gp, rfl, hrc⟩ := HC.out k p hp
      have hkp := HX0.out.hv p (List.mem_of_getElem? hp)
      have HKP := Lib.hid hkp
      obtain ⟨a1, e1, a2, e2, a3, e3, q1, q2, q3⟩ := hkp.enc
      have r0 := hrc 0 (.int .i64 p.o) rfl
      rw [Nat.add_zero] at r0
      have r1 := hrc 1 p.vh rfl
      have r2 := hrc 2 p.vp rfl
      have r3 := hrc 3 p.vs rfl
      rw [q1] at r1; rw [q2] at r2; rw [q3] at r3
      have hltI : (k : Int) < N := by omega
      have HP := Lib.hid hp; have HQ := Lib.hid (And.intro q1 (And.intro q2 q3))
      clear hp hrc hkp q1 q2 q3
      cases q : (p.o == o) with
      | true =>
        obtain ⟨W', hW', d0, d1, d2, d3, hf, hf2⟩ := hfin.out (.int .i64 p.o) (.slice a1 p.he.length e1) (.slice a2 p.pi.length e2) (.slice a3 p.sh.length e3)
        have HW := Lib.hid hW'; have HFW := Lib.hid hf; have HFW2 := Lib.hid hf2
        clear hW' hf hf2
        go_wp2_with fail
        rw [HW.out]
        refine bodyPost_ret (v := .tuple #[p.enc, .bool true]) (by have h := HQ.out; simp [results, Tryz.results79, go_sem, HV.enc, d0, d1, d2, d3, h.1, h.2.1, h.2.2]) rfl ?_
        exact ⟨⟨p, true, rfl, HKP.out.keep HFW2.out (fun b hb e => hne.out b hb e), HFW.out⟩⟩
      | false =>
        go_wp2_with fail
        go_roundw
        case rel => exact ⟨k + 1, by omega, by go_num, (by first | rfl | trivial)⟩
        case measure => simp [intOf]; omega
    · have hltI : ¬ (k : Int) < N := by omega
      obtain ⟨W', hW', d0, d1, d2, d3, hf, hf2⟩ := hfin.out (.int .i64 o) (.slice none 0 0) (.slice none 0 0) (.slice none 0 0)
      have HW := Lib.hid hW'; have HFW := Lib.hid hf; have HFW2 := Lib.hid hf2
      clear hW' hf hf2
      go_wp2_with fail
      rw [HW.out]
      refine bodyPost_ret (v := .tuple #[(noHold o).enc, .bool false]) (by simp [results, Tryz.results79, go_sem, HV.enc, noHold, d0, d1, d2, d3]) rfl ?_
      exact ⟨⟨noHold o, false, rfl, noHold_kp _ _ HO.out, HFW.out⟩⟩
end Go.Proofs.YtogphlnakdnchaaGreat

namespace Go.Proofs.YtogphlnakdnchaaGreat
open Go.RowKit Go.Maps
/-- What stands between two rounds of set: what is there already is h or was there. -/
structure S8I (W0 : World) (n1 : Nat) (h : HV) (L : List HV) (k : Nat) (v : Value) (d : Bool) (O : List HV) (W : World) : Prop where
  own : W.ownsRow n1 37 4 v O.length (hvs O)
  fr : Fr (fun b => n1 ≤ b) W0 W
  mem : ∀ x ∈ O, x = h ∨ x ∈ L
  len : O.length ≤ k + (if d = true then 1 else 0)
theorem S8I.keep {W0 W W' : World} {n1 k : Nat} {h : HV} {L O : List HV} {v : Value} {d : Bool} (hi : S8I W0 n1 h L k v d O W) (hf : Fr (fun _ => False) W W') : S8I W0 n1 h L k v d O W' :=
  ⟨hf.row hi.own (fun _ _ e => e), hi.fr.trans' hf (fun _ _ e => e.elim), hi.mem, hi.len⟩
theorem S8I.push {W0 W W' : World} {n1 k : Nat} {h : HV} {L O : List HV} {v v' : Value} {d : Bool} {p : HV} {o : Obj} (hi : S8I W0 n1 h L k v d O W) (hn : n1 ≤ W.heap.size)
    {cs : List Value} (hcs : hvC p = cs) (ho : W'.ownsRow n1 37 4 v' (O.length + 1) (hvs O ++ cs)) (hg : (W.alloc o).grownBy W' v.ownBlock) : W'.ownsRow n1 37 4 v' (O ++ [p]).length (hvs (O ++ [p])) ∧ Fr (fun b => n1 ≤ b) W0 W' := by
  refine ⟨?_, hi.fr.trans' (((Fr.refl (fun b => n1 ≤ b) W).alloc o).trans (Fr.grown hg (fun r hr _ => (hi.own.lt r hr).1))) (fun b _ e => e)⟩
  rw [hvs_app, List.length_append]
  have : hvs [p] = hvC p := by simp [hvs]
  rw [this, hcs]
  exact ho
/-- The holds are put back. -/
theorem XS.put {w W0 W : World} {g n1 : Nat} {T0 TL TB : Nat → Prop} {A : Stk} {L O : List HV} {vL v : Value} {h : HV} (hx : XS w g T0 TL A L vL) (hw : Fr (fun _ => False) w W0) (hf : Fr (fun b => n1 ≤ b) W0 W) (hn : w.heap.size ≤ n1)
    (ho : W.ownsRow n1 37 4 v O.length (hvs O)) (hm : ∀ x ∈ O, x = h ∨ x ∈ L) (hk : Kp w TB h) (hB : ∀ b, TB b → b < w.heap.size ∧ ¬ T0 b) :
    XS (W.setCell ⟨g, 1, none⟩ v) g T0 (fun b => TL b ∨ TB b ∨ (n1 ≤ b ∧ b < W.heap.size)) A O v ∧ Fr (fun b => b = g) w (W.setCell ⟨g, 1, none⟩ v) := by
  have hgT := hx.rs.own
  have hg := hx.rs.lt g hgT
  have h1 : Fr (fun _ => False) w W := (hw.trans' hf (fun b hb e => by omega))
  have hF : Fr (fun b => b = g) W (W.setCell ⟨g, 1, none⟩ v) := (Fr.refl (fun b => b = g) W).setCell (p := ⟨g, 1, none⟩) (fun _ => rfl) _
  have h2 : Fr (fun b => b = g) w (W.setCell ⟨g, 1, none⟩ v) := (h1.mono (fun _ _ e => e.elim)).trans' hF (fun b _ e => e)
  have hsz := h1.size
  have hsz2 := hF.size
  refine ⟨⟨?_, hx.ok, own_base (hF.row ho (fun b hb e => by have := (ho.lt b hb).1; omega)) (Nat.zero_le _), fun b hb => .inr (.inr (ho.lt b hb)), fun x hx' => ?_, fun b hb e => ?_, fun b hb => ?_⟩, h2⟩
  · obtain ⟨⟨u, q1, q2, q3⟩, q4, q5⟩ := hx.rs
    refine ⟨⟨u, ?_, h2.row q2 (fun b hb e => (q3 b hb).2 e), q3⟩, q4, fun b hb => Nat.lt_of_lt_of_le (q5 b hb) h2.size⟩
    exact (obj_set (h1.at_ q1 (fun e => e)) 1 v).trans rfl
  · rcases hm x hx' with rfl | hx'
    · exact (hk.keep h2 (fun b hb e => (hB b hb).2 (e ▸ hgT))).mono (fun b hb => .inr (.inl hb))
    · exact ((hx.hv x hx').keep h2 (fun b hb e => hx.no b hb (e ▸ hgT))).mono (fun b hb => .inl hb)
  · rcases hb with hb | hb | hb
    · exact hx.no b hb e
    · exact (hB b hb).2 e
    · have := hx.rs.lt b e; omega
  · rcases hb with hb | hb | hb
    · have := hx.lt b hb; omega
    · have := (hB b hb).1; omega
    · omega
/-- What set leaves. -/
structure SetP (w : World) (g : Nat) (T0 TL TB : Nat → Prop) (A : Stk) (L : List HV) (e : Ending) (w' : World) : Prop where
  ex : ∃ v TL' L' vL', e = .returned v ∧ XS w' g T0 TL' A L' vL' ∧ L'.length ≤ L.length + 1 ∧ Fr (fun b => b = g) w w' ∧ ∀ b, TL' b → TL b ∨ TB b ∨ w.heap.size ≤ b
set_option maxRecDepth 100000 in
set_option maxHeartbeats 32000000 in
theorem r8Set (w : World) (g : Nat) (T0 TL TB : Nat → Prop) (A : Stk) (L : List HV) (vL : Value) (h : HV) (hx : XS w g T0 TL A L vL) (hk : Kp w TB h) (hB : ∀ b, TB b → b < w.heap.size ∧ ¬ T0 b) (hl : (L.length : Int) ≤ 1000000) :
    Calls Tryz.prog 83 #[.pointer (some ⟨g, 0, none⟩), h.enc] w (SetP w g T0 TL TB A L) := by
  obtain ⟨a1, c1, a2, c2, a3, c3, q1, q2, q3⟩ := hk.enc
  obtain ⟨n0, hn0⟩ : ∃ n0, w.heap.size = n0 := ⟨_, rfl⟩
  obtain ⟨W0, hW0⟩ : ∃ W0, w.alloc (.cells (hvC h).toArray 37) = W0 := ⟨_, rfl⟩
  have hF0 : Fr (fun _ => False) w W0 := by rw [← hW0]; exact (Fr.refl _ w).alloc _
  have hB0 : W0.heap[n0]? = some (.cells (hvC h).toArray 37) := by rw [← hW0, ← hn0]; exact heap_new _ _
  have hS0 : W0.heap.size = n0 + 1 := by rw [← hW0, ← hn0]; simp
  have hXX := hx.keep hF0 (fun _ _ e => e)
  obtain ⟨N, hN⟩ : ∃ N, L.length = N := ⟨_, rfl⟩
  have hKeep : ∀ W, Fr (fun b => n0 + 1 ≤ b) W0 W → (∃ a c, W.cell? ⟨g, 1, none⟩ = some (.slice a N c) ∧ ∀ (k : Nat) (p : HV), L[k]? = some p → ∃ gp, a = some ⟨gp, 0, none⟩ ∧ ∀ (j : Nat) (u : Value), (hvC p)[j]? = some u → W.cell? ⟨gp, k * 4 + j, none⟩ = some u) ∧ ∀ (j : Nat) (u : Value), (hvC h)[j]? = some u → W.cell? ⟨n0, j, none⟩ = some u := fun W hf => by
    have hX2 := hXX.keep hf (fun b hb e => hb.elim (fun hb => by have := hx.rs.lt b hb; omega) (fun hb => by have := hx.lt b hb; omega))
    obtain ⟨a, c, _, h1, h2⟩ := hX2.cells
    rw [hN] at h1
    exact ⟨⟨a, c, h1, h2⟩, fun j u hu => cell_obj (hf.at_ hB0 (by omega)) j u (by simpa using hu)⟩
  have hfin : ∀ (W : World) (v : Value) (O : List HV), W.ownsRow (n0 + 1) 37 4 v O.length (hvs O) → Fr (fun b => n0 + 1 ≤ b) W0 W → (∀ x ∈ O, x = h ∨ x ∈ L) → O.length ≤ N + 1 → SetP w g T0 TL TB A L (.returned (.tuple #[])) (W.setCell ⟨g, 1, none⟩ v) := fun W v O h1 h2 h3 h4 => by
    obtain ⟨r1, r2⟩ := hx.put hF0 h2 (by omega) h1 h3 hk hB
    exact ⟨_, _, O, v, rfl, r1, by rw [hN]; exact h4, r2, fun b hb => hb.imp id (fun e => e.imp id (fun e => by omega))⟩
  have hfrz : ∀ W, Fr (fun b => n0 + 1 ≤ b) W0 W → W.frozen? ⟨g, 1, none⟩ = false := fun W hf => by
    obtain ⟨u, h1, -⟩ := (hXX.rs.fr hf (fun b hb e => by have := hx.rs.lt b hb; omega)).ex
    exact obj_frozen h1 1
  have hone : ∀ p, p = h ∨ p ∈ L → ∀ u ∈ hvC p, u.oneCell' = true := fun p hp u hu => by
    rcases hp with rfl | hp
    · exact hv_one hk hu
    · exact hv_one (hx.hv p hp) hu
  have henc : ∀ p ∈ L, ∃ a1 n1 c1 a2 n2 c2 a3 n3 c3, p.vh = .slice a1 n1 c1 ∧ p.vp = .slice a2 n2 c2 ∧ p.vs = .slice a3 n3 c3 := fun p hp => by
    obtain ⟨a1, c1, a2, c2, a3, c3, q1, q2, q3⟩ := (hx.hv p hp).enc
    exact ⟨_, _, _, _, _, _, _, _, _, q1, q2, q3⟩
  have HK := Lib.hid hKeep; have HFIN := Lib.hid hfin; have HS0 := Lib.hid hS0; have HN := Lib.hid hN; have HSZ := Lib.hid hn0; have HFZ := Lib.hid hfrz; have HONE := Lib.hid hone; have HENC := Lib.hid henc
  rw [hN] at hl
  obtain ⟨ho, hho⟩ : ∃ o, h.o = o := ⟨_, rfl⟩
  obtain ⟨m1, hm1⟩ : ∃ m, h.he.length = m := ⟨_, rfl⟩
  obtain ⟨m2, hm2⟩ : ∃ m, h.pi.length = m := ⟨_, rfl⟩
  obtain ⟨m3, hm3⟩ : ∃ m, h.sh.length = m := ⟨_, rfl⟩
  have b1 : (m1 : Int) ≤ 16 := by have := hk.he; omega
  have b2 : (m2 : Int) ≤ 16 := by have := hk.pi; omega
  have b3 : (m3 : Int) ≤ 16 := by have := hk.sh; omega
  have hC : hvC h = [.int .i64 ho, .slice a1 m1 c1, .slice a2 m2 c2, .slice a3 m3 c3] := by unfold hvC; rw [hho, q1, q2, q3, hm1, hm2, hm3]
  have hEnc : h.enc = .agg #[.int .i64 ho, .slice a1 m1 c1, .slice a2 m2 c2, .slice a3 m3 c3] := by unfold HV.enc; rw [hho, q1, q2, q3, hm1, hm2, hm3]
  have HC := Lib.hid hC
  rw [hC] at hB0 hW0
  rw [hEnc]
  have x0 := cell_obj hB0 0 _ rfl
  have x1 := cell_obj hB0 1 _ rfl
  have x2 := cell_obj hB0 2 _ rfl
  have x3 := cell_obj hB0 3 _ rfl
  have HF0 := Lib.hid (Fr.refl (fun b => n0 + 1 ≤ b) W0)
  obtain ⟨i0, hi', hz0, hz1, hz2⟩ := info_parts infoHold8
  clear hx hk hB hXX hKeep hfin hfrz hone hS0 hF0 hB0 hm1 hm2 hm3 hN henc hC hEnc q1 q2 q3 hho
  obtain ⟨E, hE⟩ : ∃ E : Bool, ((m1 : Int) + (m2 : Int) + (m3 : Int) == 0) = E := ⟨_, rfl⟩
  go_enter Tryz.func83, Tryz.ntmps83
  go_wp2_with fail
  clear hW0 hn0 hE x0 x1 x2 x3
  go_loopw [7, 4, 6] (fun i v d wr => ∃ (k : Nat) (b : Bool) (O : List HV), k ≤ N ∧ i = .int .i64 k ∧ d = .bool b ∧ S8I W0 (n0 + 1) h L k v b O wr) (fun i _ _ _ => N - (intOf i).toNat)
  case atStart => exact ⟨0, E, [], Nat.zero_le _, rfl, rfl, ⟨World.ownsRow_nil _ _ _ _, HF0.out, fun x hx => (by cases hx), Nat.zero_le _⟩⟩
  case round =>
    obtain ⟨k, d, O, hk, rfl, rfl, hI⟩ := hrel
    have HI := Lib.hid hI
    clear hI
    have SZ0 : Hid (n0 + 1 ≤ wr.heap.size) := Lib.hid (by have := HI.out.fr.size; have := HS0.out; omega)
    have HOL : Hid (O.length + 2 ≤ 1000100) := Lib.hid (by have := HI.out.len; split at this <;> omega)
    obtain ⟨⟨sa, sc, sc0, hrows⟩, hbox⟩ := HK.out wr HI.out.fr
    by_cases hlt : k < N
    · obtain ⟨p, hp⟩ : ∃ p, L[k]? = some p := ⟨L[k]'(by rw [HN.out]; exact hlt), List.getElem?_eq_getElem _⟩
      have hpm := List.mem_of_getElem? hp
      have HPM := Lib.hid hpm
      obtain ⟨d1, e1, f1, d2, e2, f2, d3, e3, f3, q1, q2, q3⟩ := HENC.out p hpm
      obtain ⟨gp, rfl, hrc⟩ := hrows k p hp
      obtain ⟨po, pvh, pvp, pvs, ph, pp, ps⟩ := p
      dsimp only at q1 q2 q3
      subst q1; subst q2; subst q3
      have HP := Lib.hid hp
      have y0 := hrc 0 (.int .i64 po) rfl
      rw [Nat.add_zero] at y0
      have x0 := hbox 0 (.int .i64 ho) (by rw [HC.out]; rfl)
      have hltI : (k : Int) < N := by omega
      clear hrc hp hpm hrows hbox
      rcases (by omega : po < ho ∨ po = ho ∨ ho < po) with hc | hc | hc
      · have g1 : ¬ ho ≤ po := by omega
        have g2 : (po != ho) = true := by simp; omega
        clear hc
        cases d with
        | false =>
          go_wp2_with fail
          go_big_quiet (fail)
          obtain ⟨W1, hW1⟩ : ∃ X, wr.drewN nq = X := ⟨_, rfl⟩
          rw [hW1]
          have hI1 := HI.out.keep ((Fr.refl (fun _ => False) wr).drewN nq)
          rw [hW1] at hI1
          have HI1 := Lib.hid hI1
          have SZ1 : Hid (n0 + 1 ≤ W1.heap.size) := Lib.hid (by have := HI1.out.fr.size; have := HS0.out; omega)
          clear hW1 hI1
          clear sc0 y0 x0
          obtain ⟨⟨sa, sc, sc0, hrows⟩, hbox⟩ := HK.out W1 HI1.out.fr
          obtain ⟨gp, rfl, hrc⟩ := hrows k _ HP.out
          have y0 := hrc 0 (.int .i64 po) rfl
          rw [Nat.add_zero] at y0
          have x0 := hbox 0 (.int .i64 ho) (by rw [HC.out]; rfl)
          clear hrows hbox hrc
          go_wp2_with fail
          go_big_quiet (fail)
          obtain ⟨W2, hW2⟩ : ∃ X, W1.drewN nq = X := ⟨_, rfl⟩
          rw [hW2]
          have hI2 := HI1.out.keep ((Fr.refl (fun _ => False) W1).drewN nq)
          rw [hW2] at hI2
          have HI2 := Lib.hid hI2
          have SZ2 : Hid (n0 + 1 ≤ W2.heap.size) := Lib.hid (by have := HI2.out.fr.size; have := HS0.out; omega)
          clear hW2 hI2
          clear sc0 y0 x0
          obtain ⟨⟨sa, sc, sc0, hrows⟩, hbox⟩ := HK.out W2 HI2.out.fr
          obtain ⟨gp, rfl, hrc⟩ := hrows k _ HP.out
          have y0 := hrc 0 (.int .i64 po) rfl
          rw [Nat.add_zero] at y0
          have y1 := hrc 1 (.slice d1 e1 f1) rfl
          have y2 := hrc 2 (.slice d2 e2 f2) rfl
          have y3 := hrc 3 (.slice d3 e3 f3) rfl
          clear hrows hbox hrc
          go_wp2_with (at_builtin; refine wpList_append_src rfl _ _ 44 rfl (n0 + 1) 37 i0 (.agg #[.int .i64 0, .slice none 0 0, .slice none 0 0, .slice none 0 0]) 80 Tryz.underlying44 hi' hz0 hz1 hz2 rfl (by decide) _ _ (hvs O) rfl (((Fr.refl (fun _ => False) W2).alloc _).row HI2.out.own (fun _ _ e => e)) 1 rfl (rd_obj (cs := [.int .i64 po, .slice d1 e1 f1, .slice d2 e2 f2, .slice d3 e3 f3]) (heap_new _ _) rfl) (fun u hu => HONE.out ⟨po, .slice d1 e1 f1, .slice d2 e2 f2, .slice d3 e3 f3, ph, pp, ps⟩ (.inr HPM.out) u hu) (by unfold maxLen; have := HOL.out; simp; omega) (by have := HOL.out; simp; omega) (by simp; have := SZ2.out; omega) ?_; intro vb wb hown hgrow hloc; have hP := HI2.out.push (p := ⟨po, .slice d1 e1 f1, .slice d2 e2 f2, .slice d3 e3 f3, ph, pp, ps⟩) SZ2.out rfl hown hgrow; have HPb := Lib.hid hP; clear hown hgrow hloc hP)
          go_roundw
          case rel => exact ⟨k + 1, false, O ++ [⟨po, .slice d1 e1 f1, .slice d2 e2 f2, .slice d3 e3 f3, ph, pp, ps⟩], by omega, by go_num, (by first | rfl | trivial), ⟨HPb.out.1, HPb.out.2, fun x hx => (List.mem_append.1 hx).elim (HI2.out.mem x) (fun hx => .inr (by rw [List.mem_singleton.1 hx]; exact HPM.out)), by have := HI2.out.len; simp at this ⊢; omega⟩⟩
          case measure => simp [intOf]; omega
        | true =>
          go_wp2_with fail
          go_big_quiet (fail)
          obtain ⟨W1, hW1⟩ : ∃ X, wr.drewN nq = X := ⟨_, rfl⟩
          rw [hW1]
          have hI1 := HI.out.keep ((Fr.refl (fun _ => False) wr).drewN nq)
          rw [hW1] at hI1
          have HI1 := Lib.hid hI1
          have SZ1 : Hid (n0 + 1 ≤ W1.heap.size) := Lib.hid (by have := HI1.out.fr.size; have := HS0.out; omega)
          clear hW1 hI1
          clear sc0 y0 x0
          obtain ⟨⟨sa, sc, sc0, hrows⟩, hbox⟩ := HK.out W1 HI1.out.fr
          obtain ⟨gp, rfl, hrc⟩ := hrows k _ HP.out
          have y0 := hrc 0 (.int .i64 po) rfl
          rw [Nat.add_zero] at y0
          have x0 := hbox 0 (.int .i64 ho) (by rw [HC.out]; rfl)
          clear hrows hbox hrc
          go_wp2_with fail
          go_big_quiet (fail)
          obtain ⟨W2, hW2⟩ : ∃ X, W1.drewN nq = X := ⟨_, rfl⟩
          rw [hW2]
          have hI2 := HI1.out.keep ((Fr.refl (fun _ => False) W1).drewN nq)
          rw [hW2] at hI2
          have HI2 := Lib.hid hI2
          have SZ2 : Hid (n0 + 1 ≤ W2.heap.size) := Lib.hid (by have := HI2.out.fr.size; have := HS0.out; omega)
          clear hW2 hI2
          clear sc0 y0 x0
          obtain ⟨⟨sa, sc, sc0, hrows⟩, hbox⟩ := HK.out W2 HI2.out.fr
          obtain ⟨gp, rfl, hrc⟩ := hrows k _ HP.out
          have y0 := hrc 0 (.int .i64 po) rfl
          rw [Nat.add_zero] at y0
          have y1 := hrc 1 (.slice d1 e1 f1) rfl
          have y2 := hrc 2 (.slice d2 e2 f2) rfl
          have y3 := hrc 3 (.slice d3 e3 f3) rfl
          clear hrows hbox hrc
          go_wp2_with (at_builtin; refine wpList_append_src rfl _ _ 44 rfl (n0 + 1) 37 i0 (.agg #[.int .i64 0, .slice none 0 0, .slice none 0 0, .slice none 0 0]) 80 Tryz.underlying44 hi' hz0 hz1 hz2 rfl (by decide) _ _ (hvs O) rfl (((Fr.refl (fun _ => False) W2).alloc _).row HI2.out.own (fun _ _ e => e)) 1 rfl (rd_obj (cs := [.int .i64 po, .slice d1 e1 f1, .slice d2 e2 f2, .slice d3 e3 f3]) (heap_new _ _) rfl) (fun u hu => HONE.out ⟨po, .slice d1 e1 f1, .slice d2 e2 f2, .slice d3 e3 f3, ph, pp, ps⟩ (.inr HPM.out) u hu) (by unfold maxLen; have := HOL.out; simp; omega) (by have := HOL.out; simp; omega) (by simp; have := SZ2.out; omega) ?_; intro vb wb hown hgrow hloc; have hP := HI2.out.push (p := ⟨po, .slice d1 e1 f1, .slice d2 e2 f2, .slice d3 e3 f3, ph, pp, ps⟩) SZ2.out rfl hown hgrow; have HPb := Lib.hid hP; clear hown hgrow hloc hP)
          go_roundw
          case rel => exact ⟨k + 1, true, O ++ [⟨po, .slice d1 e1 f1, .slice d2 e2 f2, .slice d3 e3 f3, ph, pp, ps⟩], by omega, by go_num, (by first | rfl | trivial), ⟨HPb.out.1, HPb.out.2, fun x hx => (List.mem_append.1 hx).elim (HI2.out.mem x) (fun hx => .inr (by rw [List.mem_singleton.1 hx]; exact HPM.out)), by have := HI2.out.len; simp at this ⊢; omega⟩⟩
          case measure => simp [intOf]; omega
      · have g1 : ho ≤ po := by omega
        have g2 : (po != ho) = false := by simp; omega
        clear hc
        cases d with
        | false =>
          go_wp2_with fail
          go_big_quiet (fail)
          obtain ⟨W1, hW1⟩ : ∃ X, wr.drewN nq = X := ⟨_, rfl⟩
          rw [hW1]
          have hI1 := HI.out.keep ((Fr.refl (fun _ => False) wr).drewN nq)
          rw [hW1] at hI1
          have HI1 := Lib.hid hI1
          have SZ1 : Hid (n0 + 1 ≤ W1.heap.size) := Lib.hid (by have := HI1.out.fr.size; have := HS0.out; omega)
          clear hW1 hI1
          clear sc0 y0 x0
          obtain ⟨⟨sa, sc, sc0, hrows⟩, hbox⟩ := HK.out W1 HI1.out.fr
          obtain ⟨gp, rfl, hrc⟩ := hrows k _ HP.out
          have x0 := hbox 0 (.int .i64 ho) (by rw [HC.out]; rfl)
          have x1 := hbox 1 (.slice a1 m1 c1) (by rw [HC.out]; rfl)
          have x2 := hbox 2 (.slice a2 m2 c2) (by rw [HC.out]; rfl)
          have x3 := hbox 3 (.slice a3 m3 c3) (by rw [HC.out]; rfl)
          clear hrows hbox hrc
          go_wp2_with (at_builtin; refine wpList_append_src rfl _ _ 44 rfl (n0 + 1) 37 i0 (.agg #[.int .i64 0, .slice none 0 0, .slice none 0 0, .slice none 0 0]) 80 Tryz.underlying44 hi' hz0 hz1 hz2 rfl (by decide) _ _ (hvs O) rfl (((Fr.refl (fun _ => False) W1).alloc _).row HI1.out.own (fun _ _ e => e)) 1 rfl (rd_obj (cs := [.int .i64 ho, .slice a1 m1 c1, .slice a2 m2 c2, .slice a3 m3 c3]) (heap_new _ _) rfl) (fun u hu => HONE.out h (.inl rfl) u (by rw [HC.out]; exact hu)) (by unfold maxLen; have := HOL.out; simp; omega) (by have := HOL.out; simp; omega) (by simp; have := SZ1.out; omega) ?_; intro va wa hown hgrow hloc; have hP := HI1.out.push (p := h) SZ1.out HC.out hown hgrow; have HPa := Lib.hid hP; clear hown hgrow hloc hP)
          clear sc0 x0 x1 x2 x3
          have hIa : S8I W0 (n0 + 1) h L k va true (O ++ [h]) wa := ⟨HPa.out.1, HPa.out.2, fun x hx => (List.mem_append.1 hx).elim (HI.out.mem x) (fun hx => .inl (List.mem_singleton.1 hx)), by have := HI.out.len; simp at this ⊢; omega⟩
          have HIa := Lib.hid hIa
          have SZa : Hid (n0 + 1 ≤ wa.heap.size) := Lib.hid (by have := HIa.out.fr.size; have := HS0.out; omega)
          clear hIa
          obtain ⟨⟨sa, sc, sc0, hrows⟩, hbox⟩ := HK.out wa HIa.out.fr
          obtain ⟨gp, rfl, hrc⟩ := hrows k _ HP.out
          have y0 := hrc 0 (.int .i64 po) rfl
          rw [Nat.add_zero] at y0
          have x0 := hbox 0 (.int .i64 ho) (by rw [HC.out]; rfl)
          clear hrows hbox hrc
          try go_wp2_with fail
          go_big_quiet (fail)
          obtain ⟨W2, hW2⟩ : ∃ X, wa.drewN nq = X := ⟨_, rfl⟩
          rw [hW2]
          have hI2 := HIa.out.keep ((Fr.refl (fun _ => False) wa).drewN nq)
          rw [hW2] at hI2
          have HI2 := Lib.hid hI2
          have SZ2 : Hid (n0 + 1 ≤ W2.heap.size) := Lib.hid (by have := HI2.out.fr.size; have := HS0.out; omega)
          clear hW2 hI2
          clear sc0 y0 x0
          go_wp2_with fail
          go_roundw
          case rel => exact ⟨k + 1, true, (O ++ [h]), by omega, by go_num, (by first | rfl | trivial), ⟨HI2.out.own, HI2.out.fr, HI2.out.mem, by have := HI2.out.len; simp at this ⊢; omega⟩⟩
          case measure => simp [intOf]; omega
        | true =>
          go_wp2_with fail
          go_big_quiet (fail)
          obtain ⟨W1, hW1⟩ : ∃ X, wr.drewN nq = X := ⟨_, rfl⟩
          rw [hW1]
          have hI1 := HI.out.keep ((Fr.refl (fun _ => False) wr).drewN nq)
          rw [hW1] at hI1
          have HI1 := Lib.hid hI1
          have SZ1 : Hid (n0 + 1 ≤ W1.heap.size) := Lib.hid (by have := HI1.out.fr.size; have := HS0.out; omega)
          clear hW1 hI1
          clear sc0 y0 x0
          obtain ⟨⟨sa, sc, sc0, hrows⟩, hbox⟩ := HK.out W1 HI1.out.fr
          obtain ⟨gp, rfl, hrc⟩ := hrows k _ HP.out
          have y0 := hrc 0 (.int .i64 po) rfl
          rw [Nat.add_zero] at y0
          have x0 := hbox 0 (.int .i64 ho) (by rw [HC.out]; rfl)
          clear hrows hbox hrc
          go_wp2_with fail
          go_big_quiet (fail)
          obtain ⟨W2, hW2⟩ : ∃ X, W1.drewN nq = X := ⟨_, rfl⟩
          rw [hW2]
          have hI2 := HI1.out.keep ((Fr.refl (fun _ => False) W1).drewN nq)
          rw [hW2] at hI2
          have HI2 := Lib.hid hI2
          have SZ2 : Hid (n0 + 1 ≤ W2.heap.size) := Lib.hid (by have := HI2.out.fr.size; have := HS0.out; omega)
          clear hW2 hI2
          clear sc0 y0 x0
          go_wp2_with fail
          go_roundw
          case rel => exact ⟨k + 1, true, O, by omega, by go_num, (by first | rfl | trivial), ⟨HI2.out.own, HI2.out.fr, HI2.out.mem, by have := HI2.out.len; simp at this ⊢; omega⟩⟩
          case measure => simp [intOf]; omega
      · have g1 : ho ≤ po := by omega
        have g2 : (po != ho) = true := by simp; omega
        clear hc
        cases d with
        | false =>
          go_wp2_with fail
          go_big_quiet (fail)
          obtain ⟨W1, hW1⟩ : ∃ X, wr.drewN nq = X := ⟨_, rfl⟩
          rw [hW1]
          have hI1 := HI.out.keep ((Fr.refl (fun _ => False) wr).drewN nq)
          rw [hW1] at hI1
          have HI1 := Lib.hid hI1
          have SZ1 : Hid (n0 + 1 ≤ W1.heap.size) := Lib.hid (by have := HI1.out.fr.size; have := HS0.out; omega)
          clear hW1 hI1
          clear sc0 y0 x0
          obtain ⟨⟨sa, sc, sc0, hrows⟩, hbox⟩ := HK.out W1 HI1.out.fr
          obtain ⟨gp, rfl, hrc⟩ := hrows k _ HP.out
          have x0 := hbox 0 (.int .i64 ho) (by rw [HC.out]; rfl)
          have x1 := hbox 1 (.slice a1 m1 c1) (by rw [HC.out]; rfl)
          have x2 := hbox 2 (.slice a2 m2 c2) (by rw [HC.out]; rfl)
          have x3 := hbox 3 (.slice a3 m3 c3) (by rw [HC.out]; rfl)
          clear hrows hbox hrc
          go_wp2_with (at_builtin; refine wpList_append_src rfl _ _ 44 rfl (n0 + 1) 37 i0 (.agg #[.int .i64 0, .slice none 0 0, .slice none 0 0, .slice none 0 0]) 80 Tryz.underlying44 hi' hz0 hz1 hz2 rfl (by decide) _ _ (hvs O) rfl (((Fr.refl (fun _ => False) W1).alloc _).row HI1.out.own (fun _ _ e => e)) 1 rfl (rd_obj (cs := [.int .i64 ho, .slice a1 m1 c1, .slice a2 m2 c2, .slice a3 m3 c3]) (heap_new _ _) rfl) (fun u hu => HONE.out h (.inl rfl) u (by rw [HC.out]; exact hu)) (by unfold maxLen; have := HOL.out; simp; omega) (by have := HOL.out; simp; omega) (by simp; have := SZ1.out; omega) ?_; intro va wa hown hgrow hloc; have hP := HI1.out.push (p := h) SZ1.out HC.out hown hgrow; have HPa := Lib.hid hP; clear hown hgrow hloc hP)
          clear sc0 x0 x1 x2 x3
          have hIa : S8I W0 (n0 + 1) h L k va true (O ++ [h]) wa := ⟨HPa.out.1, HPa.out.2, fun x hx => (List.mem_append.1 hx).elim (HI.out.mem x) (fun hx => .inl (List.mem_singleton.1 hx)), by have := HI.out.len; simp at this ⊢; omega⟩
          have HIa := Lib.hid hIa
          have SZa : Hid (n0 + 1 ≤ wa.heap.size) := Lib.hid (by have := HIa.out.fr.size; have := HS0.out; omega)
          clear hIa
          obtain ⟨⟨sa, sc, sc0, hrows⟩, hbox⟩ := HK.out wa HIa.out.fr
          obtain ⟨gp, rfl, hrc⟩ := hrows k _ HP.out
          have y0 := hrc 0 (.int .i64 po) rfl
          rw [Nat.add_zero] at y0
          have x0 := hbox 0 (.int .i64 ho) (by rw [HC.out]; rfl)
          clear hrows hbox hrc
          try go_wp2_with fail
          go_big_quiet (fail)
          obtain ⟨W2, hW2⟩ : ∃ X, wa.drewN nq = X := ⟨_, rfl⟩
          rw [hW2]
          have hI2 := HIa.out.keep ((Fr.refl (fun _ => False) wa).drewN nq)
          rw [hW2] at hI2
          have HI2 := Lib.hid hI2
          have SZ2 : Hid (n0 + 1 ≤ W2.heap.size) := Lib.hid (by have := HI2.out.fr.size; have := HS0.out; omega)
          clear hW2 hI2
          clear sc0 y0 x0
          obtain ⟨⟨sa, sc, sc0, hrows⟩, hbox⟩ := HK.out W2 HI2.out.fr
          obtain ⟨gp, rfl, hrc⟩ := hrows k _ HP.out
          have y0 := hrc 0 (.int .i64 po) rfl
          rw [Nat.add_zero] at y0
          have y1 := hrc 1 (.slice d1 e1 f1) rfl
          have y2 := hrc 2 (.slice d2 e2 f2) rfl
          have y3 := hrc 3 (.slice d3 e3 f3) rfl
          clear hrows hbox hrc
          go_wp2_with (at_builtin; refine wpList_append_src rfl _ _ 44 rfl (n0 + 1) 37 i0 (.agg #[.int .i64 0, .slice none 0 0, .slice none 0 0, .slice none 0 0]) 80 Tryz.underlying44 hi' hz0 hz1 hz2 rfl (by decide) _ _ (hvs (O ++ [h])) rfl (((Fr.refl (fun _ => False) W2).alloc _).row HI2.out.own (fun _ _ e => e)) 1 rfl (rd_obj (cs := [.int .i64 po, .slice d1 e1 f1, .slice d2 e2 f2, .slice d3 e3 f3]) (heap_new _ _) rfl) (fun u hu => HONE.out ⟨po, .slice d1 e1 f1, .slice d2 e2 f2, .slice d3 e3 f3, ph, pp, ps⟩ (.inr HPM.out) u hu) (by unfold maxLen; have := HOL.out; simp; omega) (by have := HOL.out; simp; omega) (by simp; have := SZ2.out; omega) ?_; intro vb wb hown hgrow hloc; have hP := HI2.out.push (p := ⟨po, .slice d1 e1 f1, .slice d2 e2 f2, .slice d3 e3 f3, ph, pp, ps⟩) SZ2.out rfl hown hgrow; have HPb := Lib.hid hP; clear hown hgrow hloc hP)
          go_roundw
          case rel => exact ⟨k + 1, true, (O ++ [h]) ++ [⟨po, .slice d1 e1 f1, .slice d2 e2 f2, .slice d3 e3 f3, ph, pp, ps⟩], by omega, by go_num, (by first | rfl | trivial), ⟨HPb.out.1, HPb.out.2, fun x hx => (List.mem_append.1 hx).elim (HI2.out.mem x) (fun hx => .inr (by rw [List.mem_singleton.1 hx]; exact HPM.out)), by have := HI2.out.len; simp at this ⊢; omega⟩⟩
          case measure => simp [intOf]; omega
        | true =>
          go_wp2_with fail
          go_big_quiet (fail)
          obtain ⟨W1, hW1⟩ : ∃ X, wr.drewN nq = X := ⟨_, rfl⟩
          rw [hW1]
          have hI1 := HI.out.keep ((Fr.refl (fun _ => False) wr).drewN nq)
          rw [hW1] at hI1
          have HI1 := Lib.hid hI1
          have SZ1 : Hid (n0 + 1 ≤ W1.heap.size) := Lib.hid (by have := HI1.out.fr.size; have := HS0.out; omega)
          clear hW1 hI1
          clear sc0 y0 x0
          obtain ⟨⟨sa, sc, sc0, hrows⟩, hbox⟩ := HK.out W1 HI1.out.fr
          obtain ⟨gp, rfl, hrc⟩ := hrows k _ HP.out
          have y0 := hrc 0 (.int .i64 po) rfl
          rw [Nat.add_zero] at y0
          have x0 := hbox 0 (.int .i64 ho) (by rw [HC.out]; rfl)
          clear hrows hbox hrc
          go_wp2_with fail
          go_big_quiet (fail)
          obtain ⟨W2, hW2⟩ : ∃ X, W1.drewN nq = X := ⟨_, rfl⟩
          rw [hW2]
          have hI2 := HI1.out.keep ((Fr.refl (fun _ => False) W1).drewN nq)
          rw [hW2] at hI2
          have HI2 := Lib.hid hI2
          have SZ2 : Hid (n0 + 1 ≤ W2.heap.size) := Lib.hid (by have := HI2.out.fr.size; have := HS0.out; omega)
          clear hW2 hI2
          clear sc0 y0 x0
          obtain ⟨⟨sa, sc, sc0, hrows⟩, hbox⟩ := HK.out W2 HI2.out.fr
          obtain ⟨gp, rfl, hrc⟩ := hrows k _ HP.out
          have y0 := hrc 0 (.int .i64 po) rfl
          rw [Nat.add_zero] at y0
          have y1 := hrc 1 (.slice d1 e1 f1) rfl
          have y2 := hrc 2 (.slice d2 e2 f2) rfl
          have y3 := hrc 3 (.slice d3 e3 f3) rfl
          clear hrows hbox hrc
          go_wp2_with (at_builtin; refine wpList_append_src rfl _ _ 44 rfl (n0 + 1) 37 i0 (.agg #[.int .i64 0, .slice none 0 0, .slice none 0 0, .slice none 0 0]) 80 Tryz.underlying44 hi' hz0 hz1 hz2 rfl (by decide) _ _ (hvs O) rfl (((Fr.refl (fun _ => False) W2).alloc _).row HI2.out.own (fun _ _ e => e)) 1 rfl (rd_obj (cs := [.int .i64 po, .slice d1 e1 f1, .slice d2 e2 f2, .slice d3 e3 f3]) (heap_new _ _) rfl) (fun u hu => HONE.out ⟨po, .slice d1 e1 f1, .slice d2 e2 f2, .slice d3 e3 f3, ph, pp, ps⟩ (.inr HPM.out) u hu) (by unfold maxLen; have := HOL.out; simp; omega) (by have := HOL.out; simp; omega) (by simp; have := SZ2.out; omega) ?_; intro vb wb hown hgrow hloc; have hP := HI2.out.push (p := ⟨po, .slice d1 e1 f1, .slice d2 e2 f2, .slice d3 e3 f3, ph, pp, ps⟩) SZ2.out rfl hown hgrow; have HPb := Lib.hid hP; clear hown hgrow hloc hP)
          go_roundw
          case rel => exact ⟨k + 1, true, O ++ [⟨po, .slice d1 e1 f1, .slice d2 e2 f2, .slice d3 e3 f3, ph, pp, ps⟩], by omega, by go_num, (by first | rfl | trivial), ⟨HPb.out.1, HPb.out.2, fun x hx => (List.mem_append.1 hx).elim (HI2.out.mem x) (fun hx => .inr (by rw [List.mem_singleton.1 hx]; exact HPM.out)), by have := HI2.out.len; simp at this ⊢; omega⟩⟩
          case measure => simp [intOf]; omega
    · have hltI : ¬ (k : Int) < N := by omega
      clear hrows
      cases d with
      | false =>
        have x0 := hbox 0 (.int .i64 ho) (by rw [HC.out]; rfl)
        have x1 := hbox 1 (.slice a1 m1 c1) (by rw [HC.out]; rfl)
        have x2 := hbox 2 (.slice a2 m2 c2) (by rw [HC.out]; rfl)
        have x3 := hbox 3 (.slice a3 m3 c3) (by rw [HC.out]; rfl)
        clear hbox
        go_wp2_with (at_builtin; refine wpList_append_src rfl _ _ 44 rfl (n0 + 1) 37 i0 (.agg #[.int .i64 0, .slice none 0 0, .slice none 0 0, .slice none 0 0]) 80 Tryz.underlying44 hi' hz0 hz1 hz2 rfl (by decide) _ _ (hvs O) rfl (((Fr.refl (fun _ => False) wr).alloc _).row HI.out.own (fun _ _ e => e)) 1 rfl (rd_obj (cs := [.int .i64 ho, .slice a1 m1 c1, .slice a2 m2 c2, .slice a3 m3 c3]) (heap_new _ _) rfl) (fun u hu => HONE.out h (.inl rfl) u (by rw [HC.out]; exact hu)) (by unfold maxLen; have := HOL.out; simp; omega) (by have := HOL.out; simp; omega) (by simp; have := SZ0.out; omega) ?_; intro va wa hown hgrow hloc; have hP := HI.out.push (p := h) SZ0.out HC.out hown hgrow; have HPa := Lib.hid hP; clear hown hgrow hloc hP; obtain ⟨oa, oc, eo⟩ := row_sl HPa.out.1; obtain ⟨M, hM⟩ : ∃ M, (O ++ [h]).length = M := ⟨_, rfl⟩; rw [hM] at eo; subst eo; have hfz := HFZ.out _ HPa.out.2; obtain ⟨⟨ta, tc, tc0, -⟩, -⟩ := HK.out wa HPa.out.2)
        go_end0
        exact HFIN.out _ _ _ HPa.out.1 HPa.out.2 (fun x hx => (List.mem_append.1 hx).elim (HI.out.mem x) (fun hx => .inl (List.mem_singleton.1 hx))) (by have := HI.out.len; simp at this ⊢; omega)
      | true =>
        have hfz := HFZ.out wr HI.out.fr
        clear hbox
        obtain ⟨oa, oc, eo⟩ := row_sl HI.out.own
        obtain ⟨M, hM⟩ : ∃ M, O.length = M := ⟨_, rfl⟩
        rw [hM] at eo
        subst eo
        go_wp2_with fail
        go_end0
        exact HFIN.out _ _ _ HI.out.own HI.out.fr HI.out.mem (by have := HI.out.len; simp at this; omega)
end Go.Proofs.YtogphlnakdnchaaGreat

namespace Go.Proofs.YtogphlnakdnchaaGreat
abbrev KV := Int × Int
def tlt (p q : KV) : Bool := decide (p.2 < q.2 ∨ (p.2 = q.2 ∧ p.1 < q.1))
theorem tlt_iff {p q : KV} : tlt p q = true ↔ (p.2 < q.2 ∨ (p.2 = q.2 ∧ p.1 < q.1)) := by simp [tlt]
theorem tlt_trans {p q r : KV} (h : tlt p q = true) (h' : tlt q r = true) : tlt p r = true := by rw [tlt_iff] at *; omega
theorem tlt_total {p q : KV} (h : tlt p q = false) (h' : tlt q p = false) : p = q := by
  have a : ¬ (tlt p q = true) := by simp [h]
  have b : ¬ (tlt q p = true) := by simp [h']
  rw [tlt_iff] at a b
  obtain ⟨p1, p2⟩ := p; obtain ⟨q1, q2⟩ := q
  simp only [Prod.mk.injEq] at *
  omega
def tIns (x : KV) : List KV → List KV
  | [] => [x]
  | y :: r => if tlt x y then x :: y :: r else y :: tIns x r
def tSet (l : List KV) (k a : Int) : List KV := tIns (k, a) (delS l k)
def TSort (l : List KV) : Prop := l.Pairwise fun p q => tlt p q = true
theorem tIns_perm (x : KV) : ∀ l, (tIns x l).Perm (x :: l)
  | [] => List.Perm.refl _
  | y :: r => by
    unfold tIns
    split
    · exact List.Perm.refl _
    · exact ((tIns_perm x r).cons y).trans (List.Perm.swap x y r)
theorem tIns_sort {x : KV} : ∀ {l : List KV}, TSort l → (∀ p ∈ l, p ≠ x) → TSort (tIns x l)
  | [], _, _ => by simp [tIns, TSort]
  | y :: r, h, hne => by
    unfold tIns
    have hc := List.pairwise_cons.1 h
    split
    · rename_i hxy
      refine List.pairwise_cons.2 ⟨fun p hp => ?_, h⟩
      rcases List.mem_cons.1 hp with rfl | hp
      · exact hxy
      · exact tlt_trans hxy (hc.1 p hp)
    · rename_i hxy
      have hyx : tlt y x = true := by
        cases hh : tlt y x
        · exact absurd (tlt_total hh (by simpa using hxy)) (hne y (by simp))
        · rfl
      refine List.pairwise_cons.2 ⟨fun p hp => ?_, tIns_sort hc.2 fun p hp => hne p (by simp [hp])⟩
      rcases List.mem_cons.1 ((tIns_perm x r).mem_iff.1 hp) with rfl | hp
      · exact hyx
      · exact hc.1 p hp
section
variable {ν : Type}
def KeysND (l : List (Int × ν)) : Prop := l.Pairwise fun p q => p.1 ≠ q.1
theorem getS_mem {l : List (Int × ν)} {x : Int} {v : ν} (h : getS l x = some v) : (x, v) ∈ l := by
  induction l with
  | nil => cases h
  | cons p r ih =>
    simp only [getS] at h
    split at h
    · rename_i e
      cases h
      rw [← e]
      exact List.mem_cons_self
    · exact List.mem_cons_of_mem _ (ih h)
theorem getS_of {l : List (Int × ν)} (h : KeysND l) {x : Int} {v : ν} (hm : (x, v) ∈ l) : getS l x = some v := by
  induction l with
  | nil => cases hm
  | cons p r ih =>
    have hc := List.pairwise_cons.1 h
    simp only [getS]
    rcases List.mem_cons.1 hm with rfl | hm
    · simp
    · rw [if_neg (hc.1 _ hm), ih hc.2 hm]
theorem getS_none {l : List (Int × ν)} {x : Int} : getS l x = none ↔ ∀ p ∈ l, p.1 ≠ x := by
  induction l with
  | nil => simp [getS]
  | cons p r ih =>
    simp only [getS]
    split
    · rename_i e; simp [e]
    · rename_i e; simp [e, ih]
theorem KeysND.perm {l l' : List (Int × ν)} (h : KeysND l) (hp : l.Perm l') : KeysND l' := (hp.pairwise_iff (fun {_ _} e => Ne.symm e)).1 h
theorem getS_perm {l l' : List (Int × ν)} (h : KeysND l) (hp : l.Perm l') (x : Int) : getS l x = getS l' x := by
  cases e : getS l x with
  | none => exact (getS_none.2 fun p hp' => getS_none.1 e p (hp.mem_iff.2 hp')).symm
  | some v => exact (getS_of (h.perm hp) (hp.mem_iff.1 (getS_mem e))).symm
theorem delS_perm {l l' : List (Int × ν)} (hp : l.Perm l') (x : Int) : (delS l x).Perm (delS l' x) := hp.filter _
theorem delS_nd {l : List (Int × ν)} (h : KeysND l) (x : Int) : KeysND (delS l x) := List.Pairwise.filter _ h
theorem delS_not {l : List (Int × ν)} {x : Int} {p : Int × ν} (h : p ∈ delS l x) : p.1 ≠ x := by simpa using (List.mem_filter.1 h).2
theorem insS_perm (lt : Int → Int → Bool) (x : Int × ν) : ∀ l, (insS lt x l).Perm (x :: l)
  | [] => List.Perm.refl _
  | y :: r => by
    unfold insS
    split
    · exact List.Perm.refl _
    · exact ((insS_perm lt x r).cons y).trans (List.Perm.swap x y r)
theorem putS_perm (lt : Int → Int → Bool) (l : List (Int × ν)) (x : Int) (v : ν) : (putS lt l x v).Perm ((x, v) :: delS l x) := insS_perm lt _ _
end
/-- l, in the order in which they get due, is X. -/
structure Rp (l X : List KV) : Prop where
  perm : X.Perm l
  sort : TSort X
  nd : KeysND l
theorem Rp.set {l X : List KV} (h : Rp l X) (lt : Int → Int → Bool) (k a : Int) : Rp (putS lt l k a) (tSet X k a) where
  perm := (tIns_perm _ _).trans (((delS_perm h.perm k).cons (k, a)).trans (putS_perm lt l k a).symm)
  sort := tIns_sort (List.Pairwise.filter _ h.sort) fun p hp e => delS_not hp (by rw [e])
  nd := by
    refine KeysND.perm ?_ (putS_perm lt l k a).symm
    exact List.pairwise_cons.2 ⟨fun p hp e => delS_not hp e.symm, delS_nd h.nd k⟩
theorem Rp.del {l X : List KV} (h : Rp l X) (k : Int) : Rp (delS l k) (delS X k) := ⟨delS_perm h.perm k, List.Pairwise.filter _ h.sort, delS_nd h.nd k⟩
theorem Rp.nil : Rp [] [] := ⟨List.Perm.refl _, List.Pairwise.nil, List.Pairwise.nil⟩
theorem Rp.get {l X : List KV} (h : Rp l X) (x : Int) : getS l x = getS X x := getS_perm h.nd h.perm.symm x
theorem Rp.len {l X : List KV} (h : Rp l X) : l.length = X.length := h.perm.length_eq.symm
end Go.Proofs.YtogphlnakdnchaaGreat

namespace Go.Proofs.YtogphlnakdnchaaGreat
open Go.RowKit Go.Maps
theorem kHI : KO Tryz.prog 3 ktI := koI Tryz.underlying3
/-- An order's hold, as it stands. -/
def holdOf (l : List (Int × HV)) (o : Int) : HV := (getS l o).getD ⟨o, .slice none 0 0, .slice none 0 0, .slice none 0 0, [], [], []⟩
def mayO (o : Int) : Int := if 1 ≤ o ∧ o ≤ 1099511627776 then 0 else 1
section
variable {W : World} {g gs m : Nat} {T0 TB : Nat → Prop} {A : Stk} {l : List (Int × HV)}
theorem SB.cells (h : SB W g gs m T0 TB A l) : W.cell? ⟨g, 0, none⟩ = some (.pointer (some ⟨gs, 0, none⟩)) ∧ W.cell? ⟨g, 1, none⟩ = some (.map (some m)) := ⟨cell_obj h.obj 0 _ rfl, cell_obj h.obj 1 _ rfl⟩
end
theorem hNew (w : World) : Calls Tryz.prog 6 #[] w fun e w' => ∃ g TS, e = .returned (.pointer (some ⟨g, 0, none⟩)) ∧ SH w' g TS [] [] ∧ (∀ b, TS b → w.heap.size ≤ b) ∧ Fr (fun _ => False) w w' := by
  have hmm := @run_makeMap Tryz.prog
  go_enter Tryz.func6, Tryz.ntmps6
  go_wp2_with (go_at_call 24; refine (sNew _).mono ?_; rintro e w1 ⟨rfl, hs, hf, hz⟩; have HS := Lib.hid hs; have HF := Lib.hid hf; have HZ := Lib.hid hz; clear hs hf hz)
  go_ret
  have hz := HZ.out
  refine ⟨_, _, rfl, ⟨w.heap.size + 1, w1.heap.size, (fun b => b = w.heap.size ∨ b = w.heap.size + 1), (fun _ => False), ⟨heap_at (by simp) _, (HS.out.fr ((Fr.refl (fun _ => False) w1).alloc _) (fun _ _ e => e)).fr ((Fr.refl (fun _ => False) _).alloc _) (fun _ _ e => e), (Mp.made Tryz.prog w1 3 ktI HV.enc).alloc _, fun p hp => (by cases hp), ⟨by simp; omega, fun e => e, by simp⟩, ⟨by simp; omega, fun e => e⟩, fun b e => e.elim, fun b e => e.elim⟩, fun b => Iff.rfl⟩, fun b hb => by rcases hb with rfl | rfl | hb | hb <;> first | omega | (exact hb.elim) | (simp at *; omega), (HF.out.alloc _).alloc _⟩
theorem hmade (w : World) (g m : Nat) (hc : w.cell? ⟨g, 1, none⟩ = some (.map (some m))) : Calls Tryz.prog 39 #[.pointer (some ⟨g, 0, none⟩)] w fun e w' => e = .returned (.bool true) ∧ w = w' := by
  have hn := fun (w : World) (r : Option Nat) => run_neq_map_nil (P := Tryz.prog) w 61 _ _ r Tryz.underlying61
  go_enter Tryz.func39, Tryz.ntmps39
  go_wp2
  go_ret
  exact ⟨rfl, rfl⟩
theorem hmay (w : World) (g m : Nat) (o : Int) (hc : w.cell? ⟨g, 1, none⟩ = some (.map (some m))) : Calls Tryz.prog 26 #[.pointer (some ⟨g, 0, none⟩), .int .i64 o] w fun e w' => e = .returned (.int .i64 (mayO o)) ∧ w = w' := by
  unfold mayO
  rcases (by omega : o < 1 ∨ 1099511627776 < o ∨ (¬ o < 1 ∧ ¬ 1099511627776 < o)) with h1 | h1 | ⟨h1, h2⟩
  · rw [if_neg (by omega)]
    go_enter Tryz.func26, Tryz.ntmps26
    go_wp2_with (go_at_call 39; refine (hmade _ g m hc).mono ?_; rintro e w' ⟨rfl, rfl⟩)
    go_ret
    exact ⟨rfl, rfl⟩
  · rw [if_neg (by omega)]
    have h2 : ¬ o < 1 := by omega
    go_enter Tryz.func26, Tryz.ntmps26
    go_wp2_with (go_at_call 39; refine (hmade _ g m hc).mono ?_; rintro e w' ⟨rfl, rfl⟩)
    go_ret
    exact ⟨rfl, rfl⟩
  · rw [if_pos (by omega)]
    go_enter Tryz.func26, Tryz.ntmps26
    go_wp2_with (go_at_call 39; refine (hmade _ g m hc).mono ?_; rintro e w' ⟨rfl, rfl⟩)
    go_ret
    exact ⟨rfl, rfl⟩
/-- The list of an order's hold: its members lie where the shelf's do. -/
theorem SB.hold {W : World} {g gs m : Nat} {T0 TB : Nat → Prop} {A : Stk} {l : List (Int × HV)} (h : SB W g gs m T0 TB A l) {o : Int} (ho : okI o) : HOk W TB (holdOf l o) ∧ (holdOf l o).o = o := by
  unfold holdOf
  cases hg : getS l o with
  | none =>
    have hn : Lb W TB (.slice none 0 0) [] := ⟨⟨Nat.zero_le _, none, 0, rfl, fun i p hp => by simp at hp⟩, fun e => absurd rfl e⟩
    exact ⟨⟨ho, hn, hn, hn⟩, rfl⟩
  | some x =>
    obtain ⟨e, hk⟩ := h.rows _ (getS_mem hg)
    exact ⟨hk, e.symm⟩
set_option maxRecDepth 100000 in
set_option maxHeartbeats 2000000 in
theorem hhold (w : World) (g gs m : Nat) (T0 TB : Nat → Prop) (A : Stk) (l : List (Int × HV)) (o : Int) (h : SB w g gs m T0 TB A l) (ho : okI o) :
    Calls Tryz.prog 27 #[.pointer (some ⟨g, 0, none⟩), .int .i64 o] w fun e w' => e = .returned (holdOf l o).enc ∧ Fr (fun _ => False) w w' := by
  have h1 := h.keep ((Fr.refl (fun _ => False) w).alloc (.cells #[.int .i64 0, .slice none 0 0, .slice none 0 0, .slice none 0 0] 37)) (fun _ _ e => e)
  obtain ⟨c0, c1⟩ := h1.cells
  have hlk := h1.mp.look_ok (t := 61) kHI Tryz.underlying61 (z := .agg #[.int .i64 0, .slice none 0 0, .slice none 0 0, .slice none 0 0]) (by kernel_rfl) ho
  unfold holdOf
  cases hg : getS l o with
  | none =>
    rw [hg] at hlk
    dsimp only [Option.isSome, Option.getD, HV.enc] at hlk ⊢
    have hlk2 : (Instr.lookup 61 (.map (some m)) (.int .i64 o) true).run Tryz.prog _ = _ := hlk
    clear h h1 hg hlk
    go_enter Tryz.func27, Tryz.ntmps27
    go_wp2
    go_returns
    exact ⟨rfl, ((Fr.refl _ _).alloc _).alloc _⟩
  | some x =>
    rw [hg] at hlk
    obtain ⟨-, hk⟩ := h.rows _ (getS_mem hg)
    obtain ⟨a1, c1', e1⟩ := hk.lh.1.sl
    obtain ⟨a2, c2', e2⟩ := hk.lp.1.sl
    obtain ⟨a3, c3', e3⟩ := hk.ls.1.sl
    obtain ⟨xo, xh, xp, xs, a, b, c⟩ := x
    dsimp only at e1 e2 e3
    subst e1; subst e2; subst e3
    clear hk
    dsimp only [Option.isSome, Option.getD, HV.enc] at hlk ⊢
    have hlk2 : (Instr.lookup 61 (.map (some m)) (.int .i64 o) true).run Tryz.prog _ = _ := hlk
    clear h h1 hg hlk
    go_enter Tryz.func27, Tryz.ntmps27
    go_wp2
    go_returns
    exact ⟨rfl, ((Fr.refl _ _).alloc _).alloc _⟩
end Go.Proofs.YtogphlnakdnchaaGreat

namespace Go.Proofs.YtogphlnakdnchaaGreat
open Go.RowKit Go.Maps
def HV.num (x : HV) : Nat := x.he.length + x.pi.length + x.sh.length
def setH (l : List (Int × HV)) (x : HV) : List (Int × HV) := if x.num = 0 then delS l x.o else putS ktI.lt l x.o x
section
variable {W W' : World} {g gs m : Nat} {T0 TB TB' : Nat → Prop} {A : Stk} {l : List (Int × HV)}
theorem SB.more (h : SB W g gs m T0 TB A l) (hT : ∀ b, TB b → TB' b) (hB : ∀ b, TB' b → b < W.heap.size ∧ ¬ T0 b ∧ b ≠ g ∧ b ≠ m) : SB W g gs m T0 TB' A l := by
  obtain ⟨h1, h2, h3, h4, h5, h6, h7, h8⟩ := h
  exact ⟨h1, h2, h3, fun p hp => ⟨(h4 p hp).1, (h4 p hp).2.mono hT⟩, ⟨h5.1, fun e => (hB g e).2.2.1 rfl, h5.2.2⟩, ⟨h6.1, fun e => (hB m e).2.2.2 rfl⟩, fun b hb => (hB b hb).2.1, fun b hb => (hB b hb).1⟩
end
set_option maxRecDepth 100000 in
set_option maxHeartbeats 4000000 in
theorem hset (w : World) (g gs m : Nat) (T0 TB TB' : Nat → Prop) (A : Stk) (l : List (Int × HV)) (x : HV) (h : SB w g gs m T0 TB A l) (hT : ∀ b, TB b → TB' b) (hk : HOk w TB' x) (hB : ∀ b, TB' b → b < w.heap.size ∧ ¬ T0 b ∧ b ≠ g ∧ b ≠ m) (hl : l.length ≤ 1000000) (hx : x.he.length ≤ 1000 ∧ x.pi.length ≤ 1000 ∧ x.sh.length ≤ 1000) :
    Calls Tryz.prog 32 #[.pointer (some ⟨g, 0, none⟩), x.enc] w fun e w' => e = .returned (.tuple #[]) ∧ SB w' g gs m T0 TB' A (setH l x) ∧ Fr (fun b => b = m) w w' := by
  have HH := Lib.hid h; have HK := Lib.hid hk; have HT := Lib.hid hT; have HB := Lib.hid hB
  obtain ⟨a1, c1, e1⟩ := hk.lh.1.sl
  obtain ⟨a2, c2, e2⟩ := hk.lp.1.sl
  obtain ⟨a3, c3, e3⟩ := hk.ls.1.sl
  have ho := hk.o
  have hmn := h.ng.2.2
  unfold setH HV.num
  obtain ⟨o, xh, xp, xs, he, pi, sh⟩ := x
  dsimp only at e1 e2 e3 hx ho
  subst e1; subst e2; subst e3
  obtain ⟨n1, hn1⟩ : ∃ n, he.length = n := ⟨_, rfl⟩
  obtain ⟨n2, hn2⟩ : ∃ n, pi.length = n := ⟨_, rfl⟩
  obtain ⟨n3, hn3⟩ : ∃ n, sh.length = n := ⟨_, rfl⟩
  dsimp only [HV.enc]
  rw [hn1, hn2, hn3] at HK hx ⊢
  have hst : ∀ W, Fr (fun _ => False) w W → ∃ w', (Instr.mapUpdate 61 (.map (some m)) (.int .i64 o) (.agg #[.int .i64 o, .slice a1 n1 c1, .slice a2 n2 c2, .slice a3 n3 c3])).run Tryz.prog W = .ok () w' ∧ Mp Tryz.prog w' 3 ktI HV.enc m (putS ktI.lt l o ⟨o, .slice a1 n1 c1, .slice a2 n2 c2, .slice a3 n3 c3, he, pi, sh⟩) ∧ W.mapTurned w' m := fun W hW =>
    (hW.mp HH.out.mp (fun h => h)).store kHI Tryz.underlying61 (by omega) ho (⟨o, .slice a1 n1 c1, .slice a2 n2 c2, .slice a3 n3 c3, he, pi, sh⟩ : HV)
  have hdl : ∀ W ty, Fr (fun _ => False) w W → ∃ w', (Builtin.delete_ #[61, 3] ty #[.map (some m), .int .i64 o]).run Tryz.prog W = .ok (.tuple #[]) w' ∧ Mp Tryz.prog w' 3 ktI HV.enc m (delS l o) ∧ W.mapTurned w' m := fun W ty hW =>
    (hW.mp HH.out.mp (fun h => h)).drop kHI Tryz.underlying61 ho ty
  have HST := Lib.hid hst; have HDL := Lib.hid hdl
  obtain ⟨n0, hn0⟩ : ∃ n0, w.heap.size = n0 := ⟨_, rfl⟩
  have HN0 := Lib.hid hn0
  have hbx : (w.alloc (.cells #[.int .i64 o, .slice a1 n1 c1, .slice a2 n2 c2, .slice a3 n3 c3] 37)).heap[n0]? = some (.cells #[.int .i64 o, .slice a1 n1 c1, .slice a2 n2 c2, .slice a3 n3 c3] 37) := heap_at hn0.symm _
  have HBX := Lib.hid hbx
  have hw1 : IntKind.i64.wrap ((n1 : Int) + n2) = (n1 : Int) + n2 := IntWalk.i64_in _ ⟨by omega, by omega⟩
  have hw2 : IntKind.i64.wrap ((n1 : Int) + n2 + n3) = (n1 : Int) + n2 + n3 := IntWalk.i64_in _ ⟨by omega, by omega⟩
  clear h hk hT hB hst hdl hbx hn1 hn2 hn3
  by_cases hz : n1 + n2 + n3 = 0
  · rw [if_pos hz]
    obtain ⟨rfl, rfl, rfl⟩ : n1 = 0 ∧ n2 = 0 ∧ n3 = 0 := by omega
    clear hw1 hw2 hz hx
    go_enter Tryz.func32, Tryz.ntmps32
    go_wp2_with fail
    refine wp_region_still_tail 6 (by kernel_rfl) (by kernel_rfl) ?_
    simp only [List.take_succ_cons, List.take_zero, List.drop_succ_cons, List.drop_zero]
    subst hn0
    obtain ⟨W1, hW1⟩ : ∃ W1, w.alloc (.cells #[.int .i64 o, .slice a1 0 c1, .slice a2 0 c2, .slice a3 0 c3] 37) = W1 := ⟨_, rfl⟩
    have hF0 : Fr (fun _ => False) w W1 := by rw [← hW1]; exact (Fr.refl _ w).alloc _
    rw [hW1] at HBX ⊢
    have hF : Fr (fun _ => False) w W1.drew := hF0.drew
    have hB3 : W1.drew.heap[w.heap.size]? = some (.cells #[.int .i64 o, .slice a1 0 c1, .slice a2 0 c2, .slice a3 0 c3] 37) := HBX.out
    change wpStill _ _ W1.drew (fun a' => wpList _ _ _ _ a' W1.drew) _ _
    generalize W1.drew = V at hF hB3 ⊢
    obtain ⟨w5, hst5, hm5, ht5⟩ := HDL.out V 0 hF
    have hSV := HH.out.keep hF (fun _ _ e => e)
    obtain ⟨cg0, cg1⟩ := hSV.cells
    have d0 := cell_obj hB3 0 (.int .i64 o) rfl
    have HSV := Lib.hid hSV; have HF := Lib.hid hF; have HM5 := Lib.hid hm5; have HT5 := Lib.hid ht5
    clear hSV hF hB3 hm5 ht5 hF0 hW1
    repeat still_step
    refine wpStill_nil ?_
    go_wp2_with fail
    have hF5 : Fr (fun b => b = m) w w5 := (HF.out.mono (fun _ _ h => h.elim)).trans' (Fr.turned (S := fun b => b = m) HT5.out rfl) (fun b _ e => e)
    have hz2 := hF5.size
    refine bodyPost_ret (v := .tuple #[]) (by simp [results, Tryz.results32, go_sem]) rfl ?_
    exact ⟨rfl, (HSV.out.del HM5.out HT5.out).more HT.out (fun b hb => ⟨by have := (HB.out b hb).1; omega, (HB.out b hb).2⟩), hF5⟩
  · rw [if_neg hz]
    have hzI : ((n1 : Int) + n2 + n3 == 0) = false := by simp; omega
    clear hz
    go_enter Tryz.func32, Tryz.ntmps32
    go_wp2_with fail
    refine wp_region_still_tail 7 (by kernel_rfl) (by kernel_rfl) ?_
    simp only [List.take_succ_cons, List.take_zero, List.drop_succ_cons, List.drop_zero]
    subst hn0
    obtain ⟨W1, hW1⟩ : ∃ W1, w.alloc (.cells #[.int .i64 o, .slice a1 n1 c1, .slice a2 n2 c2, .slice a3 n3 c3] 37) = W1 := ⟨_, rfl⟩
    have hF0 : Fr (fun _ => False) w W1 := by rw [← hW1]; exact (Fr.refl _ w).alloc _
    rw [hW1] at HBX ⊢
    have hF : Fr (fun _ => False) w W1.drew := hF0.drew
    have hB3 : W1.drew.heap[w.heap.size]? = some (.cells #[.int .i64 o, .slice a1 n1 c1, .slice a2 n2 c2, .slice a3 n3 c3] 37) := HBX.out
    change wpStill _ _ W1.drew (fun a' => wpList _ _ _ _ a' W1.drew) _ _
    generalize W1.drew = V at hF hB3 ⊢
    obtain ⟨w5, hst5, hm5, ht5⟩ := HST.out V hF
    have hSV := HH.out.keep hF (fun _ _ e => e)
    obtain ⟨cg0, cg1⟩ := hSV.cells
    have d0 := cell_obj hB3 0 (.int .i64 o) rfl
    have d1 := cell_obj hB3 1 (.slice a1 n1 c1) rfl
    have d2 := cell_obj hB3 2 (.slice a2 n2 c2) rfl
    have d3 := cell_obj hB3 3 (.slice a3 n3 c3) rfl
    have HSV := Lib.hid hSV; have HF := Lib.hid hF; have HM5 := Lib.hid hm5; have HT5 := Lib.hid ht5
    clear hSV hF hB3 hm5 ht5 hF0 hW1
    repeat still_step
    refine wpStill_nil ?_
    go_wp2_with fail
    go_end0
    have hF5 : Fr (fun b => b = m) w w5 := (HF.out.mono (fun _ _ h => h.elim)).trans' (Fr.turned (S := fun b => b = m) HT5.out rfl) (fun b _ e => e)
    exact ⟨rfl, HSV.out.put (h' := ⟨o, .slice a1 n1 c1, .slice a2 n2 c2, .slice a3 n3 c3, he, pi, sh⟩) HM5.out HT5.out HT.out (HK.out.keep HF.out (fun _ _ e => e)) (fun b hb => ⟨by have := (HB.out b hb).1; have := HF.out.size; omega, (HB.out b hb).2⟩), hF5⟩
end Go.Proofs.YtogphlnakdnchaaGreat

namespace Go.Proofs.YtogphlnakdnchaaGreat
open Go.RowKit Go.Maps
abbrev Hes := List (Int × HE)
def HE.num (x : HE) : Nat := x.he.length + x.pi.length + x.sh.length
def heOf (le : Hes) (o : Int) : HE := (getS le o).getD ⟨o, [], [], []⟩
def setE (le : Hes) (x : HE) : Hes := if x.num = 0 then delS le x.o else putS ktI.lt le x.o x
def mapE (l : List (Int × HV)) : Hes := l.map fun p => (p.1, p.2.e)
section
variable {κ ν μ : Type} [DecidableEq κ] (f : ν → μ)
theorem getS_map (l : List (κ × ν)) (x : κ) : getS (l.map fun p => (p.1, f p.2)) x = (getS l x).map f := by
  induction l with
  | nil => rfl
  | cons p r ih =>
    simp only [List.map_cons, getS]
    by_cases e : p.1 = x
    · rw [if_pos e, if_pos e]; rfl
    · rw [if_neg e, if_neg e, ih]
theorem delS_map (l : List (κ × ν)) (x : κ) : delS (l.map fun p => (p.1, f p.2)) x = (delS l x).map fun p => (p.1, f p.2) := by
  unfold delS
  rw [List.filter_map]
  rfl
omit [DecidableEq κ] in
theorem insS_map (lt : κ → κ → Bool) (x : κ × ν) : ∀ l : List (κ × ν), insS lt (x.1, f x.2) (l.map fun p => (p.1, f p.2)) = (insS lt x l).map fun p => (p.1, f p.2)
  | [] => rfl
  | y :: r => by
    show (if lt x.1 y.1 = true then _ else _) = List.map _ (if lt x.1 y.1 = true then _ else _)
    cases lt x.1 y.1
    · simp only [Bool.false_eq_true, if_false, List.map_cons, insS_map lt x r]
    · simp
theorem putS_map (lt : κ → κ → Bool) (l : List (κ × ν)) (x : κ) (v : ν) : putS lt (l.map fun p => (p.1, f p.2)) x (f v) = (putS lt l x v).map fun p => (p.1, f p.2) := by
  unfold putS
  rw [delS_map]
  exact insS_map f lt (x, v) _
end
theorem heOf_map (l : List (Int × HV)) (o : Int) : heOf (mapE l) o = (holdOf l o).e := by
  unfold heOf holdOf mapE
  rw [getS_map]
  cases getS l o <;> rfl
theorem getE_none (l : List (Int × HV)) (o : Int) : (getS (mapE l) o).isNone = (getS l o).isNone := by
  unfold mapE
  rw [getS_map]
  cases getS l o <;> rfl
theorem setE_map (l : List (Int × HV)) (x : HV) : mapE (setH l x) = setE (mapE l) x.e := by
  have h1 : x.e.num = x.num := rfl
  have h2 : x.e.o = x.o := rfl
  unfold setH setE
  rw [h1, h2]
  split
  · unfold mapE; rw [delS_map]
  · unfold mapE; rw [putS_map]
theorem mapE_len (l : List (Int × HV)) : (mapE l).length = l.length := by unfold mapE; rw [List.length_map]
/-- What Take answers, and what it leaves. -/
def takeE (A : Stk) (le : Hes) (o : Int) (L : Its) : (Its × Int) × Stk × Hes :=
  if mayO o ≠ 0 then (([], mayO o), A, le)
  else if mayL L = false then (([], 60), A, le)
  else if 0 < (heOf le o).pi.length + (heOf le o).sh.length then (([], 80), A, le)
  else if offerS A L = [] then (([], 0), A, le)
  else if (getS le o).isNone = true ∧ 256 ≤ le.length then (([], 2), A, le)
  else if (plusF (heOf le o).he (offerS A L)).2 ≠ 0 then (([], (plusF (heOf le o).he (offerS A L)).2), A, le)
  else if (doS A 2 (offerS A L)).1 ≠ 0 then (([], (doS A 2 (offerS A L)).1), A, le)
  else ((offerS A L, 0), (doS A 2 (offerS A L)).2, setE le { heOf le o with he := (plusF (heOf le o).he (offerS A L)).1 })
/-- A hold's lists, by their places. -/
def HE.get (x : HE) : Nat → Its
  | 0 => x.he
  | 1 => x.pi
  | _ => x.sh
def HE.set (x : HE) (i : Nat) (L : Its) : HE := match i with
  | 0 => { x with he := L }
  | 1 => { x with pi := L }
  | _ => { x with sh := L }
/-- What moving all of list i to list j (or to none) answers, and what it leaves. -/
def moveS (A : Stk) (le : Hes) (o k : Int) (i : Nat) (j : Option Nat) : (Its × Int) × Stk × Hes :=
  if mayO o ≠ 0 then (([], mayO o), A, le)
  else if (heOf le o).get i = [] then (([], 4), A, le)
  else match j with
    | none => if (doS A k ((heOf le o).get i)).1 ≠ 0 then (([], (doS A k ((heOf le o).get i)).1), A, le)
      else (((heOf le o).get i, 0), (doS A k ((heOf le o).get i)).2, setE le ((heOf le o).set i []))
    | some j => if (plusF ((heOf le o).get j) ((heOf le o).get i)).2 ≠ 0 then (([], (plusF ((heOf le o).get j) ((heOf le o).get i)).2), A, le)
      else if (doS A k ((heOf le o).get i)).1 ≠ 0 then (([], (doS A k ((heOf le o).get i)).1), A, le)
      else (((heOf le o).get i, 0), (doS A k ((heOf le o).get i)).2, setE le (((heOf le o).set i []).set j (plusF ((heOf le o).get j) ((heOf le o).get i)).1))
def freeE (A : Stk) (le : Hes) (o : Int) : (Its × Int) × Stk × Hes :=
  if mayO o ≠ 0 then (([], mayO o), A, le)
  else if 0 < (heOf le o).pi.length then (([], 80), A, le)
  else moveS A le o 3 0 none
def pickE (A : Stk) (le : Hes) (o : Int) := moveS A le o 4 0 (some 1)
def unpickE (A : Stk) (le : Hes) (o : Int) := moveS A le o 5 1 (some 0)
def shipE (A : Stk) (le : Hes) (o : Int) := moveS A le o 6 1 (some 2)
/-- A shelf's lists all may be. -/
structure HEok (o : Int) (x : HE) : Prop where
  eq : x.o = o
  may : 1 ≤ o ∧ o ≤ 1099511627776
  he : mayL x.he = true
  pi : mayL x.pi = true
  sh : mayL x.sh = true
  num : x.num ≠ 0
structure ShOk (A : Stk) (le : Hes) : Prop where
  stk : SOk A
  rise : le.Pairwise (fun p q => p.1 < q.1)
  row : ∀ p ∈ le, HEok p.1 p.2
  len : le.length ≤ 256
theorem offer_len (A : Stk) (L : Its) : (offerS A L).length ≤ L.length := List.length_filterMap_le _ _
theorem heOf_o {le : Hes} {o : Int} (h : ∀ p ∈ le, p.1 = p.2.o) : (heOf le o).o = o := by
  unfold heOf
  cases e : getS le o with
  | none => rfl
  | some x => exact (h _ (getK_mem e)).symm
theorem heOf_may {le : Hes} (h : ∀ p ∈ le, HEok p.1 p.2) (o : Int) : mayL (heOf le o).he = true ∧ mayL (heOf le o).pi = true ∧ mayL (heOf le o).sh = true := by
  unfold heOf
  cases e : getS le o with
  | none => exact ⟨rfl, rfl, rfl⟩
  | some x =>
    have := h _ (getK_mem e)
    exact ⟨this.he, this.pi, this.sh⟩
theorem heOf_len {le : Hes} (h : ∀ p ∈ le, HEok p.1 p.2) (o : Int) : (heOf le o).he.length ≤ 16 ∧ (heOf le o).pi.length ≤ 16 ∧ (heOf le o).sh.length ≤ 16 := by
  have := heOf_may h o
  exact ⟨(mayL_iff.1 this.1).2, (mayL_iff.1 this.2.1).2, (mayL_iff.1 this.2.2).2⟩
end Go.Proofs.YtogphlnakdnchaaGreat

namespace Go.Proofs.YtogphlnakdnchaaGreat
open Go.RowKit Go.Maps
/-- The document's shelf as a thing of its own, of k holds at most. -/
def XE (w : World) (g : Nat) (TS : Nat → Prop) (k : Nat) : Prop := ∃ T0 TL A L vL, XS w g T0 TL A L vL ∧ L.length ≤ k ∧ ∀ b, TS b ↔ T0 b ∨ TL b
theorem XE.keep {S TS : Nat → Prop} {w w' : World} {g k : Nat} (h : XE w g TS k) (hf : Fr S w w') (hS : ∀ b, TS b → ¬ S b) : XE w' g TS k := by
  obtain ⟨T0, TL, A, L, vL, hx, hl, hT⟩ := h
  exact ⟨T0, TL, A, L, vL, hx.keep hf (fun b hb => hS b ((hT b).2 hb)), hl, hT⟩
theorem XE.lt {TS : Nat → Prop} {w : World} {g k : Nat} (h : XE w g TS k) : ∀ b, TS b → b < w.heap.size := by
  obtain ⟨T0, TL, A, L, vL, hx, hl, hT⟩ := h
  exact fun b hb => ((hT b).1 hb).elim (hx.rs.lt b) (hx.lt b)
theorem XE.up {TS : Nat → Prop} {w : World} {g k k' : Nat} (h : XE w g TS k) (hk : k ≤ k') : XE w g TS k' := by
  obtain ⟨T0, TL, A, L, vL, hx, hl, hT⟩ := h
  exact ⟨T0, TL, A, L, vL, hx, Nat.le_trans hl hk, hT⟩
/-- What a method answers and leaves. -/
structure XA (w : World) (g : Nat) (TS : Nat → Prop) (k : Nat) (e : Ending) (w' : World) : Prop where
  ex : ∃ v' L' c TS', e = .returned (.tuple #[v', .int .i64 c]) ∧ Il w' v' L' ∧ XE w' g TS' (k + 1) ∧ Stp TS w w' TS'
theorem XA.no {w w' : World} {g k : Nat} {TS : Nat → Prop} (h : XE w g TS k) (hf : Fr (fun _ => False) w w') (c : Int) : XA w g TS k (.returned (.tuple #[.slice none 0 0, .int .i64 c])) w' :=
  ⟨_, [], c, TS, rfl, nilIl _, (h.keep hf (fun _ _ e => e)).up (Nat.le_succ _), Stp.refl hf⟩
/-- As no, but the stock has turned. -/
theorem XS.err {w w3 w4 : World} {g k : Nat} {T0 T0' TL TS : Nat → Prop} {A A' : Stk} {L : List HV} {vL : Value} (h : XS w g T0 TL A L vL) (hl : L.length ≤ k) (hT : ∀ b, TS b ↔ T0 b ∨ TL b) (f3 : Fr (fun _ => False) w w3)
    (hr : RSX ([vL], 46) w4 g T0' A') (hA : SOk A') (hs : Stp T0 w3 w4 T0') (c : Int) : XA w g TS k (.returned (.tuple #[.slice none 0 0, .int .i64 c])) w4 := by
  have h4 := (h.keep f3 (fun _ _ e => e)).stock hr hA hs
  refine ⟨_, [], c, _, rfl, nilIl _, ⟨T0', TL, A', L, vL, h4, by omega, fun b => Iff.rfl⟩, (f3.mono (fun _ _ e => e.elim)).trans' hs.1 (fun b _ e => (hT b).2 (.inl e)), fun b hb => ?_⟩
  rcases hb with hb | hb
  · exact (hs.2 b hb).elim (fun e => .inl ((hT b).2 (.inl e))) (fun e => .inr (Nat.le_trans f3.size e))
  · exact .inl ((hT b).2 (.inr hb))
/-- Ahead of set: the shelf as it stands. -/
theorem XS.ahead {w w3 w4 w5 : World} {g n1 : Nat} {T0 T0' TL : Nat → Prop} {A A' : Stk} {L : List HV} {vL : Value} (h : XS w g T0 TL A L vL) (f3 : Fr (fun _ => False) w w3) (n1b : w.heap.size ≤ n1 ∧ n1 < w3.heap.size)
    (hr : RSX ([vL], 46) w4 g T0' A') (hA : SOk A') (hs : Stp T0 w3 w4 T0') (f5 : Fr (fun b => b = n1) w4 w5) : XS w5 g T0' TL A' L vL :=
  ((h.keep f3 (fun _ _ e => e)).stock hr hA hs).keep f5 (fun b hb e => by
    rcases hb with hb | hb
    · rcases hs.2 b hb with hb | hb
      · have := h.rs.lt b hb; omega
      · omega
    · have := h.lt b hb; omega)
/-- A list ahead of set stands, as it was. -/
theorem XS.list {w w3 w4 w5 : World} {g n1 : Nat} {T0 T0' TL : Nat → Prop} {A : Stk} {L : List HV} {vL v' : Value} {L' : Its} (h : XS w g T0 TL A L vL)
    (hs : Stp T0 w3 w4 T0') (f5 : Fr (fun b => b = n1) w4 w5) (n1b : w.heap.size ≤ n1) (hi : Il w3 v' L') (hv : L' ≠ [] → ∀ b, v'.ownBlock = some b → TL b ∨ (w.heap.size ≤ b ∧ b ≠ n1 ∧ b < w3.heap.size)) : Il w5 v' L' := by
  refine (hi.keep hs.1 (fun hn b hb e => ?_)).keep f5 (fun hn b hb e => ?_)
  · rcases hv hn b hb with hb | hb
    · exact h.no b hb e
    · have := h.rs.lt b e; omega
  · rcases hv hn b hb with hb | hb
    · have := h.lt b hb; omega
    · exact hb.2.1 e
/-- What set is asked for of the new hold's blocks. -/
theorem XS.tb {w w3 w4 w5 : World} {g n1 : Nat} {T0 T0' TL TB : Nat → Prop} {A : Stk} {L : List HV} {vL : Value} (h : XS w g T0 TL A L vL) (f3 : Fr (fun _ => False) w w3) (hs : Stp T0 w3 w4 T0') (f5 : Fr (fun b => b = n1) w4 w5)
    (hB : ∀ b, TB b → TL b ∨ (w.heap.size ≤ b ∧ b < w3.heap.size)) : ∀ b, TB b → b < w5.heap.size ∧ ¬ T0' b := fun b hb => by
  have s3 := f3.size
  have s4 := hs.1.size
  have s5 := f5.size
  rcases hB b hb with hb | hb
  · refine ⟨by have := h.lt b hb; omega, fun e => (hs.2 b e).elim (h.no b hb) (fun e => by have := h.lt b hb; omega)⟩
  · exact ⟨by omega, fun e => (hs.2 b e).elim (fun e => by have := h.rs.lt b e; omega) (fun e => by omega)⟩
theorem XS.fin {w w3 w4 w5 w6 : World} {g n1 k : Nat} {T0 T0' TL TB TS : Nat → Prop} {A A' : Stk} {L : List HV} {vL v' : Value} {L' : Its} {c : Int} {e : Ending} (h : XS w g T0 TL A L vL) (hl : L.length ≤ k) (hT : ∀ b, TS b ↔ T0 b ∨ TL b)
    (f3 : Fr (fun _ => False) w w3) (n1b : w.heap.size ≤ n1) (hs : Stp T0 w3 w4 T0') (f5 : Fr (fun b => b = n1) w4 w5)
    (hB : ∀ b, TB b → TL b ∨ (w.heap.size ≤ b ∧ b < w3.heap.size)) (hi : Il w3 v' L') (hv : L' ≠ [] → ∀ b, v'.ownBlock = some b → TL b ∨ (w.heap.size ≤ b ∧ b ≠ n1 ∧ b < w3.heap.size))
    (hp : SetP w5 g T0' TL TB A' L e w6) : XA w g TS k (.returned (.tuple #[v', .int .i64 c])) w6 := by
  obtain ⟨vr, TL', L2, vL', -, h6, hl2, hf6, ht6⟩ := hp
  have s3 := f3.size
  have s4 := hs.1.size
  have s5 := f5.size
  have hg := h.rs.own
  refine ⟨v', L', c, _, rfl, (h.list hs f5 n1b hi hv).keep hf6 (fun hn b hb e => ?_), ⟨T0', TL', A', L2, vL', h6, by omega, fun b => Iff.rfl⟩, ?_, fun b hb => ?_⟩
  · subst e
    rcases hv hn b hb with hb | hb
    · exact h.no b hb hg
    · have := h.rs.lt b hg; omega
  · have e1 : Fr TS w w4 := (f3.mono (fun _ _ e => e.elim)).trans' hs.1 (fun b _ e => (hT b).2 (.inl e))
    have e2 : Fr TS w w5 := e1.trans' f5 (fun b hb e => by omega)
    exact e2.trans' hf6 (fun b _ e => (hT b).2 (.inl (e ▸ hg)))
  · rcases hb with hb | hb
    · exact (hs.2 b hb).elim (fun e => .inl ((hT b).2 (.inl e))) (fun e => .inr (by omega))
    · rcases ht6 b hb with hb | hb | hb
      · exact .inl ((hT b).2 (.inr hb))
      · exact (hB b hb).elim (fun e => .inl ((hT b).2 (.inr e))) (fun e => .inr e.1)
      · exact .inr (by omega)
/-- A hold as it lies in a cell. -/
theorem Kp.enc2 {W : World} {TB : Nat → Prop} {h : HV} (hk : Kp W TB h) : ∃ xo a1 m1 c1 a2 m2 c2 a3 m3 c3, h.enc = .agg #[.int .i64 xo, .slice a1 m1 c1, .slice a2 m2 c2, .slice a3 m3 c3] ∧ h.o = xo ∧ h.vh = .slice a1 m1 c1 ∧ h.vp = .slice a2 m2 c2 ∧ h.vs = .slice a3 m3 c3 ∧ h.he.length = m1 ∧ h.pi.length = m2 ∧ h.sh.length = m3 := by
  obtain ⟨a1, c1, a2, c2, a3, c3, q1, q2, q3⟩ := hk.enc
  refine ⟨_, a1, _, c1, a2, _, c2, a3, _, c3, ?_, rfl, q1, q2, q3, rfl, rfl, rfl⟩
  unfold HV.enc
  rw [q1, q2, q3]
set_option maxRecDepth 100000 in
set_option maxHeartbeats 16000000 in
theorem r8Take (w : World) (g k : Nat) (TS : Nat → Prop) (o : Int) (v : Value) (L0 : Its) (h : XE w g TS k) (ho : okI o) (hv : Il w v L0) (hk : k ≤ 1000) :
    Calls Tryz.prog 41 #[.pointer (some ⟨g, 0, none⟩), .int .i64 o, v] w (XA w g TS k) := by
  have HE := Lib.hid h
  obtain ⟨T0, TL, A, L, vL, hx, hl, hT⟩ := h
  have HX := Lib.hid hx; have HLk := Lib.hid hl; have HT := Lib.hid hT; have HO := Lib.hid ho
  have hL1 : (L.length : Int) ≤ 1000000 := by omega
  have HL1 := Lib.hid hL1
  have HMY := Lib.hid (fun W => r8may W o)
  have HMA := Lib.hid (fun W (hf : Fr (fun _ => False) w W) => r6May W v L0 (hv.fr hf (fun _ e => e.elim)))
  have HV := Lib.hid hv
  obtain ⟨a, c, rfl⟩ := hv.sl
  obtain ⟨N, hN⟩ : ∃ N, L0.length = N := ⟨_, rfl⟩
  rw [hN] at HMA HV ⊢
  obtain ⟨my, hmy⟩ : ∃ b, mayR o = b := ⟨_, rfl⟩
  obtain ⟨ma, hma⟩ : ∃ b, mayL L0 = b := ⟨_, rfl⟩
  have HMB := Lib.hid hma
  rw [hmy] at HMY
  rw [hma] at HMA
  obtain ⟨F, hF⟩ : ∃ F, offerS A L0 = F := ⟨_, rfl⟩
  obtain ⟨nf, hnf⟩ : ∃ n, F.length = n := ⟨_, rfl⟩
  have hf16 : mayL L0 = true → (nf : Int) ≤ 16 := fun h => by
    have h1 := offer_len A L0
    have h2 := (mayL_iff.1 h).2
    rw [hF] at h1
    omega
  obtain ⟨D, hD⟩ : ∃ D, (doS A 2 F).1 = D := ⟨_, rfl⟩
  have HF := Lib.hid hF; have HNF := Lib.hid hnf; have HD := Lib.hid hD; have HF16 := Lib.hid hf16
  obtain ⟨nL, hnL⟩ : ∃ n, L.length = n := ⟨_, rfl⟩
  have HNL := Lib.hid hnL
  clear hx hl hT ho hv hN hmy hma hL1 hF hnf hf16 hD hnL
  cases my with
  | false =>
    go_enter Tryz.func41, Tryz.ntmps41
    go_wp2_with (go_at_call 77; refine (HMY.out _).mono ?_; rintro e w1 ⟨rfl, rfl⟩)
    go_returns
    exact XA.no HE.out (Fr.refl _ _) _
  | true =>
  cases ma with
  | false =>
    go_enter Tryz.func41, Tryz.ntmps41
    go_wp2_with (first | (go_at_call 77; refine (HMY.out _).mono ?_; rintro e w1 ⟨rfl, rfl⟩) | (go_at_call 78; refine (HMA.out _ (Fr.refl _ _)).mono ?_; rintro e w1 ⟨rfl, n, rfl⟩))
    go_returns
    exact XA.no HE.out ((Fr.refl _ _).drewN _) _
  | true =>
  go_enter Tryz.func41, Tryz.ntmps41
  go_upto_region 6 with (first
    | (go_at_call 77; refine (HMY.out _).mono ?_; rintro e w1 ⟨rfl, rfl⟩)
    | (go_at_call 78; refine (HMA.out _ (Fr.refl _ _)).mono ?_; rintro e w1 ⟨rfl, nd, rfl⟩)
    | (go_at_call 79; refine (r8Hold _ g T0 TL A L vL o (HX.out.keep ((Fr.refl (fun _ => False) w).drewN nd) (fun _ _ e => e)) HO.out HL1.out).mono ?_; rintro e w1 ⟨x, is, rfl, hkp, hf1⟩; obtain ⟨xo, a1, m1, c1, a2, m2, c2, a3, m3, c3, henc, p0, p1, p2, p3, p4, p5, p6⟩ := hkp.enc2; rw [henc]; have HKP := Lib.hid hkp; have HF1 := Lib.hid (((Fr.refl (fun _ => False) w).drewN nd).trans hf1); have HP := Lib.hid (And.intro p0 (And.intro p1 (And.intro p2 (And.intro p3 (And.intro p4 (And.intro p5 p6)))))); clear hkp hf1 henc p0 p1 p2 p3 p4 p5 p6))
  obtain ⟨n1, hn1⟩ : ∃ n, w1.heap.size = n := ⟨_, rfl⟩
  obtain ⟨W1, hW1⟩ : ∃ W, w1.alloc (.cells #[.int .i64 xo, .slice a1 m1 c1, .slice a2 m2 c2, .slice a3 m3 c3] 37) = W := ⟨_, rfl⟩
  have hB : W1.heap[n1]? = some (.cells #[.int .i64 xo, .slice a1 m1 c1, .slice a2 m2 c2, .slice a3 m3 c3] 37) := by rw [← hW1, ← hn1]; exact heap_new _ _
  have hf01 : Fr (fun _ => False) w1 W1 := by rw [← hW1]; exact (Fr.refl _ w1).alloc _
  have hn1b : w.heap.size ≤ n1 ∧ n1 < W1.heap.size := ⟨by rw [← hn1]; exact HF1.out.size, (Array.getElem?_eq_some_iff.1 hB).1⟩
  have HB := Lib.hid hB; have HFW := Lib.hid (HF1.out.trans hf01); have HNB := Lib.hid hn1b
  have HKW := Lib.hid (HKP.out.keep hf01 (fun _ _ e => e))
  rw [hW1, hn1]
  clear hW1 hn1 hB hf01 hn1b
  have b1 : (m1 : Int) ≤ 16 := by have h := HP.out; have := HKW.out.he; omega
  have b2 : (m2 : Int) ≤ 16 := by have h := HP.out; have := HKW.out.pi; omega
  have b3 : (m3 : Int) ≤ 16 := by have h := HP.out; have := HKW.out.sh; omega
  have d1 := cell_obj HB.out 1 _ rfl
  have d2 := cell_obj HB.out 2 _ rfl
  have d3 := cell_obj HB.out 3 _ rfl
  by_cases h0 : (0 : Int) < (m2 : Int) + (m3 : Int)
  · go_wp2_with fail
    go_returns
    exact XA.no HE.out HFW.out _
  go_upto_region 9 with (go_at_call 80; refine (r7Free _ g T0 A _ L0 ((HX.out.keep HFW.out (fun _ _ e => e)).rs) HX.out.ok (HV.out.fr HFW.out (fun _ e => e.elim)) HMB.out).mono ?_; rw [HF.out]; rintro e w2 ⟨v2, rfl, hi2, hb2, hf2⟩; obtain ⟨fa, fc, e2⟩ := hi2.sl; rw [HNF.out] at e2; subst e2; have HI2 := Lib.hid hi2; have HB2 := Lib.hid hb2; have HF2 := Lib.hid hf2; clear hi2 hb2 hf2)
  have f16 := HF16.out HMB.out
  have HF02 := Lib.hid (HFW.out.trans HF2.out)
  by_cases hf0 : ((nf : Int) == 0) = true
  · go_wp2_with fail
    go_returns
    exact XA.no HE.out HF02.out _
  have hf0' : ((nf : Int) == 0) = false := by simpa using hf0
  clear hf0 d1 d2 d3
  obtain ⟨la, lc, -, lc0, -⟩ := (HX.out.keep HF02.out (fun _ _ e => e)).cells
  rw [HNL.out] at lc0
  have hB2' := HF2.out.at_ HB.out (fun e => e)
  have d1 := cell_obj hB2' 1 _ rfl
  clear hB2'
  have hq : is = true ∨ (is = false ∧ (256 : Int) ≤ nL) ∨ (is = false ∧ ¬ (256 : Int) ≤ nL) := by
    cases is
    · exact .inr ((by omega : (256 : Int) ≤ nL ∨ ¬ (256 : Int) ≤ nL).imp (fun h => ⟨rfl, h⟩) (fun h => ⟨rfl, h⟩))
    · exact .inl rfl
  rcases hq with rfl | ⟨rfl, h256⟩ | ⟨rfl, h256⟩
  rotate_left
  · go_wp2_with fail
    go_returns
    exact XA.no HE.out HF02.out _
  all_goals
    go_upto_region 14 with (go_at_call 81; refine (r8plus _ _ _ x.he F (by have h := ((HKW.out.keep HF2.out (fun _ _ e => e)).ok.lh).1; rw [HP.out.2.1] at h; exact h) HI2.out HKW.out.he (by rw [HNF.out]; omega)).mono ?_; rintro e w3 ⟨v3, L3, cc, rfl, hi3, hb3, hl3, hf3⟩; obtain ⟨ga, gc, e3⟩ := hi3.sl; obtain ⟨m4, hm4⟩ : ∃ m, L3.length = m := ⟨_, rfl⟩; rw [hm4] at e3; subst e3; have HI3 := Lib.hid hi3; have HB3 := Lib.hid hb3; have HL3 := Lib.hid hl3; have HF3 := Lib.hid hf3; have HM4 := Lib.hid hm4; clear hi3 hb3 hl3 hf3 hm4)
    have HF03 := Lib.hid (HF02.out.trans HF3.out)
    clear d1 lc0
    by_cases hc : (cc != 0) = true
    · go_wp2_with fail
      go_returns
      exact XA.no HE.out HF03.out _
    have hc' : (cc != 0) = false := by simpa using hc
    clear hc
    have hB3' := (HF2.out.trans HF3.out).at_ HB.out (fun e => e)
    have HB3' := Lib.hid hB3'
    clear hB3'
    have HNB3 : Hid (n1 < w3.heap.size) := Lib.hid (Nat.lt_of_lt_of_le HNB.out.2 (HF2.out.trans HF3.out).size)
    go_upto_region 17 with (go_at_call 82; refine (r7Do _ g T0 A 2 _ F ((HX.out.keep HF03.out (fun _ _ e => e)).rs) HX.out.ok (HI2.out.fr HF3.out (fun _ e => e.elim))).mono ?_; rw [HD.out]; rintro e w4 ⟨rfl, T0', hr4, hs4⟩; have HR4 := Lib.hid hr4; have HS4 := Lib.hid hs4; clear hr4 hs4)
    by_cases hD0 : (D != 0) = true
    · go_wp2_with fail
      go_returns
      exact HX.out.err HLk.out HT.out HF03.out HR4.out (doS_ok HX.out.ok) HS4.out _
    have hD0' : (D != 0) = false := by simpa using hD0
    clear hD0
    have hnT : ¬ T0 n1 := fun e => by have := HX.out.rs.lt n1 e; have := HNB.out.1; omega
    have hB4 := HS4.out.1.at_ HB3'.out hnT
    have d0 := cell_obj hB4 0 _ rfl
    have d1 := cell_obj hB4 1 _ rfl
    have d2 := cell_obj hB4 2 _ rfl
    have d3 := cell_obj hB4 3 _ rfl
    have z1 := obj_frozen hB4 1
    clear hB4 hnT
    have HF5 : Hid (Fr (fun b => b = n1) w4 (w4.setCell ⟨n1, 1, none⟩ (.slice ga m4 gc))) := Lib.hid ((Fr.refl (fun b => b = n1) w4).setCell (p := ⟨n1, 1, none⟩) (fun _ => rfl) _)
    have HX5 := Lib.hid (HX.out.ahead HF03.out ⟨HNB.out.1, HNB3.out⟩ HR4.out (doS_ok HX.out.ok) HS4.out HF5.out)
    have HTB : Hid (∀ b, (TL b ∨ (w.heap.size ≤ b ∧ b ≠ n1 ∧ b < w3.heap.size)) → TL b ∨ (w.heap.size ≤ b ∧ b < w3.heap.size)) := Lib.hid (fun b hb => hb.imp id (fun e => ⟨e.1, e.2.2⟩))
    have HT5 := Lib.hid (HX.out.tb HF03.out HS4.out HF5.out HTB.out)
    have hv3b : ∀ b, (Value.slice ga m4 gc).ownBlock = some b → w.heap.size ≤ b ∧ b ≠ n1 ∧ b < w3.heap.size := fun b hb => by
      have h1 := HB3.out b hb
      have h2 := HF2.out.size
      have h3 := HNB.out
      omega
    have hkp5 : Kp (w4.setCell ⟨n1, 1, none⟩ (.slice ga m4 gc)) (fun b => TL b ∨ (w.heap.size ≤ b ∧ b ≠ n1 ∧ b < w3.heap.size)) ⟨xo, .slice ga m4 gc, .slice a2 m2 c2, .slice a3 m3 c3, L3, x.pi, x.sh⟩ := by
      have hk3 := HKW.out.keep (HF2.out.trans HF3.out) (fun _ _ e => e)
      obtain ⟨q0, q1, q2, q3, -⟩ := HP.out
      have l2 := hk3.ok.lp; have l3 := hk3.ok.ls
      rw [q2] at l2; rw [q3] at l3
      exact ⟨⟨q0 ▸ hk3.ok.o, ⟨HX.out.list HS4.out HF5.out HNB.out.1 HI3.out (fun _ b hb => .inr (hv3b b hb)), fun _ b hb => .inr (hv3b b hb)⟩,
        ⟨HX.out.list HS4.out HF5.out HNB.out.1 l2.1 (fun hn b hb => .inl (l2.2 hn b hb)), fun hn b hb => .inl (l2.2 hn b hb)⟩,
        ⟨HX.out.list HS4.out HF5.out HNB.out.1 l3.1 (fun hn b hb => .inl (l3.2 hn b hb)), fun hn b hb => .inl (l3.2 hn b hb)⟩⟩, HL3.out, hk3.pi, hk3.sh⟩
    have HK5 := Lib.hid hkp5
    clear hkp5 hv3b
    go_wp2_with (go_at_call 83; refine (r8Set _ g T0' TL _ _ L vL ⟨xo, .slice ga m4 gc, .slice a2 m2 c2, .slice a3 m3 c3, L3, x.pi, x.sh⟩ HX5.out HK5.out HT5.out HL1.out).mono ?_; rintro e w6 hp6; obtain ⟨u6, rfl⟩ : ∃ u, e = .returned u := (by obtain ⟨⟨u, _, _, _, hu, _⟩⟩ := hp6; exact ⟨u, hu⟩); have HP6 := Lib.hid hp6; clear hp6)
    go_returns
    exact HX.out.fin HLk.out HT.out HF03.out HNB.out.1 HS4.out HF5.out HTB.out (HI2.out.fr HF3.out (fun _ e => e.elim)) (fun _ b hb => .inr (by have h1 := HB2.out b hb; have h2 := HNB.out; have h3 := HF3.out.size; omega)) HP6.out
end Go.Proofs.YtogphlnakdnchaaGreat

namespace Go.Proofs.YtogphlnakdnchaaGreat
open Go.RowKit Go.Maps
set_option maxRecDepth 100000 in
set_option maxHeartbeats 16000000 in
theorem r8Free (w : World) (g k : Nat) (TS : Nat → Prop) (o : Int) (h : XE w g TS k) (ho : okI o) (hk : k ≤ 1000) :
    Calls Tryz.prog 42 #[.pointer (some ⟨g, 0, none⟩), .int .i64 o] w (XA w g TS k) := by
  have HE := Lib.hid h
  obtain ⟨T0, TL, A, L, vL, hx, hl, hT⟩ := h
  have HX := Lib.hid hx; have HLk := Lib.hid hl; have HT := Lib.hid hT; have HO := Lib.hid ho
  have hL1 : (L.length : Int) ≤ 1000000 := by omega
  have HL1 := Lib.hid hL1
  have HMY := Lib.hid (fun W => r8may W o)
  obtain ⟨my, hmy⟩ : ∃ b, mayR o = b := ⟨_, rfl⟩
  rw [hmy] at HMY
  clear hx hl hT ho hmy hL1
  cases my with
  | false =>
    go_enter Tryz.func42, Tryz.ntmps42
    go_wp2_with (go_at_call 77; refine (HMY.out _).mono ?_; rintro e w1 ⟨rfl, rfl⟩)
    go_returns
    exact XA.no HE.out (Fr.refl _ _) _
  | true =>
  go_enter Tryz.func42, Tryz.ntmps42
  go_upto_region 4 with (first
    | (go_at_call 77; refine (HMY.out _).mono ?_; rintro e w1 ⟨rfl, rfl⟩)
    | (go_at_call 79; refine (r8Hold _ g T0 TL A L vL o HX.out HO.out HL1.out).mono ?_; rintro e w1 ⟨x, is, rfl, hkp, hf1⟩; obtain ⟨xo, a1, m1, c1, a2, m2, c2, a3, m3, c3, henc, p0, p1, p2, p3, p4, p5, p6⟩ := hkp.enc2; rw [henc]; have HKP := Lib.hid hkp; have HF1 := Lib.hid hf1; have HP := Lib.hid (And.intro p0 (And.intro p1 (And.intro p2 (And.intro p3 (And.intro p4 (And.intro p5 p6)))))); clear hkp hf1 henc p0 p1 p2 p3 p4 p5 p6))
  obtain ⟨n1, hn1⟩ : ∃ n, w1.heap.size = n := ⟨_, rfl⟩
  obtain ⟨W1, hW1⟩ : ∃ W, w1.alloc (.cells #[.int .i64 xo, .slice a1 m1 c1, .slice a2 m2 c2, .slice a3 m3 c3] 37) = W := ⟨_, rfl⟩
  have hB : W1.heap[n1]? = some (.cells #[.int .i64 xo, .slice a1 m1 c1, .slice a2 m2 c2, .slice a3 m3 c3] 37) := by rw [← hW1, ← hn1]; exact heap_new _ _
  have hf01 : Fr (fun _ => False) w1 W1 := by rw [← hW1]; exact (Fr.refl _ w1).alloc _
  have hn1b : w.heap.size ≤ n1 ∧ n1 < W1.heap.size := ⟨by rw [← hn1]; exact HF1.out.size, (Array.getElem?_eq_some_iff.1 hB).1⟩
  have HB := Lib.hid hB; have HFW := Lib.hid (HF1.out.trans hf01); have HNB := Lib.hid hn1b
  have HKW := Lib.hid (HKP.out.keep hf01 (fun _ _ e => e))
  rw [hW1, hn1]
  clear hW1 hn1 hB hf01 hn1b
  have b1 : (m1 : Int) ≤ 16 := by have h := HP.out; have := HKW.out.he; omega
  have b2 : (m2 : Int) ≤ 16 := by have h := HP.out; have := HKW.out.pi; omega
  have b3 : (m3 : Int) ≤ 16 := by have h := HP.out; have := HKW.out.sh; omega
  have d1 := cell_obj HB.out 1 _ rfl
  have d2 := cell_obj HB.out 2 _ rfl
  have d3 := cell_obj HB.out 3 _ rfl
  obtain ⟨D, hD⟩ : ∃ D, (doS A 3 x.he).1 = D := ⟨_, rfl⟩
  have HD := Lib.hid hD
  clear hD
  by_cases h0 : ((m1 : Int) + (m2 : Int) == 0) = true
  · go_wp2_with fail
    go_returns
    exact XA.no HE.out HFW.out _
  have h0' : ((m1 : Int) + (m2 : Int) == 0) = false := by simpa using h0
  clear h0
  by_cases h1 : (0 : Int) < m2
  · go_wp2_with fail
    go_returns
    exact XA.no HE.out HFW.out _
  obtain ⟨w3, hw3⟩ : ∃ w3, w3 = W1 := ⟨_, rfl⟩
  have HF23 : Hid (Fr (fun _ => False) W1 w3) := Lib.hid (by rw [hw3]; exact Fr.refl _ _)
  rw [← hw3]
  rw [← hw3] at d1 d2 d3
  clear hw3
  have HF03 := Lib.hid (HFW.out.trans HF23.out)
  have HB3' := Lib.hid (HF23.out.at_ HB.out (fun e => e))
  have HNB3 : Hid (n1 < w3.heap.size) := Lib.hid (Nat.lt_of_lt_of_le HNB.out.2 HF23.out.size)
  all_goals
    have hnT : ¬ T0 n1 := fun e => by have := HX.out.rs.lt n1 e; have := HNB.out.1; omega
    have HSRC : Hid (Il w3 (Value.slice a1 m1 c1) x.he ∧ (x.he ≠ [] → ∀ b, (Value.slice a1 m1 c1).ownBlock = some b → TL b)) := Lib.hid (by
      have hk3 := (HKW.out.keep HF23.out (fun _ _ e => e)).ok.lh
      rw [HP.out.2.1] at hk3
      exact hk3)
    go_upto_region 10 with (go_at_call 82; refine (r7Do _ g T0 A 3 _ x.he ((HX.out.keep HF03.out (fun _ _ e => e)).rs) HX.out.ok HSRC.out.1).mono ?_; rw [HD.out]; rintro e w4 ⟨rfl, T0', hr4, hs4⟩; have HR4 := Lib.hid hr4; have HS4 := Lib.hid hs4; clear hr4 hs4)
    by_cases hD0 : (D != 0) = true
    · go_wp2_with fail
      go_returns
      exact HX.out.err HLk.out HT.out HF03.out HR4.out (doS_ok HX.out.ok) HS4.out _
    have hD0' : (D != 0) = false := by simpa using hD0
    clear hD0
    have hB4 := HS4.out.1.at_ HB3'.out hnT
    have d0 := cell_obj hB4 0 _ rfl
    have d1 := cell_obj hB4 1 _ rfl
    have d2 := cell_obj hB4 2 _ rfl
    have d3 := cell_obj hB4 3 _ rfl
    have z1 := obj_frozen hB4 1
    have z2 := obj_frozen hB4 2
    have z3 := obj_frozen hB4 3
    clear hB4 hnT
    have HF5 : Hid (Fr (fun b => b = n1) w4 (w4.setCell ⟨n1, 1, none⟩ (.slice none 0 0))) := Lib.hid ((Fr.refl (fun b => b = n1) w4).setCell (p := ⟨n1, 1, none⟩) (fun _ => rfl) (.slice none 0 0))
    have HX5 := Lib.hid (HX.out.ahead HF03.out ⟨HNB.out.1, HNB3.out⟩ HR4.out (doS_ok HX.out.ok) HS4.out HF5.out)
    have HTB : Hid (∀ b, (TL b ∨ (w.heap.size ≤ b ∧ b ≠ n1 ∧ b < w3.heap.size)) → TL b ∨ (w.heap.size ≤ b ∧ b < w3.heap.size)) := Lib.hid (fun b hb => hb.imp id (fun e => ⟨e.1, e.2.2⟩))
    have HT5 := Lib.hid (HX.out.tb HF03.out HS4.out HF5.out HTB.out)
    have hkp5 : Kp (w4.setCell ⟨n1, 1, none⟩ (.slice none 0 0)) (fun b => TL b ∨ (w.heap.size ≤ b ∧ b ≠ n1 ∧ b < w3.heap.size)) ⟨xo, .slice none 0 0, .slice a2 m2 c2, .slice a3 m3 c3, [], x.pi, x.sh⟩ := by
      have hk3 := HKW.out.keep HF23.out (fun _ _ e => e)
      obtain ⟨q0, q1, q2, q3, -⟩ := HP.out
      have l1 := hk3.ok.lh; have l2 := hk3.ok.lp; have l3 := hk3.ok.ls
      rw [q1] at l1; rw [q2] at l2; rw [q3] at l3
      exact ⟨⟨q0 ▸ hk3.ok.o, ⟨nilIl _, fun h => absurd rfl h⟩, ⟨HX.out.list HS4.out HF5.out HNB.out.1 l2.1 (fun hn b hb => .inl (l2.2 hn b hb)), fun hn b hb => .inl (l2.2 hn b hb)⟩, ⟨HX.out.list HS4.out HF5.out HNB.out.1 l3.1 (fun hn b hb => .inl (l3.2 hn b hb)), fun hn b hb => .inl (l3.2 hn b hb)⟩⟩, Nat.zero_le _, hk3.pi, hk3.sh⟩
    have HK5 := Lib.hid hkp5
    clear hkp5
    go_wp2_with (go_at_call 83; refine (r8Set _ g T0' TL _ _ L vL ⟨xo, .slice none 0 0, .slice a2 m2 c2, .slice a3 m3 c3, [], x.pi, x.sh⟩ HX5.out HK5.out HT5.out HL1.out).mono ?_; rintro e w6 hp6; obtain ⟨u6, rfl⟩ : ∃ u, e = .returned u := (by obtain ⟨⟨u, _, _, _, hu, _⟩⟩ := hp6; exact ⟨u, hu⟩); have HP6 := Lib.hid hp6; clear hp6)
    go_returns
    exact HX.out.fin HLk.out HT.out HF03.out HNB.out.1 HS4.out HF5.out HTB.out HSRC.out.1 (fun hn b hb => .inl (HSRC.out.2 hn b hb)) HP6.out
set_option maxRecDepth 100000 in
set_option maxHeartbeats 16000000 in
theorem r8Pick (w : World) (g k : Nat) (TS : Nat → Prop) (o : Int) (h : XE w g TS k) (ho : okI o) (hk : k ≤ 1000) :
    Calls Tryz.prog 43 #[.pointer (some ⟨g, 0, none⟩), .int .i64 o] w (XA w g TS k) := by
  have HE := Lib.hid h
  obtain ⟨T0, TL, A, L, vL, hx, hl, hT⟩ := h
  have HX := Lib.hid hx; have HLk := Lib.hid hl; have HT := Lib.hid hT; have HO := Lib.hid ho
  have hL1 : (L.length : Int) ≤ 1000000 := by omega
  have HL1 := Lib.hid hL1
  have HMY := Lib.hid (fun W => r8may W o)
  obtain ⟨my, hmy⟩ : ∃ b, mayR o = b := ⟨_, rfl⟩
  rw [hmy] at HMY
  clear hx hl hT ho hmy hL1
  cases my with
  | false =>
    go_enter Tryz.func43, Tryz.ntmps43
    go_wp2_with (go_at_call 77; refine (HMY.out _).mono ?_; rintro e w1 ⟨rfl, rfl⟩)
    go_returns
    exact XA.no HE.out (Fr.refl _ _) _
  | true =>
  go_enter Tryz.func43, Tryz.ntmps43
  go_upto_region 4 with (first
    | (go_at_call 77; refine (HMY.out _).mono ?_; rintro e w1 ⟨rfl, rfl⟩)
    | (go_at_call 79; refine (r8Hold _ g T0 TL A L vL o HX.out HO.out HL1.out).mono ?_; rintro e w1 ⟨x, is, rfl, hkp, hf1⟩; obtain ⟨xo, a1, m1, c1, a2, m2, c2, a3, m3, c3, henc, p0, p1, p2, p3, p4, p5, p6⟩ := hkp.enc2; rw [henc]; have HKP := Lib.hid hkp; have HF1 := Lib.hid hf1; have HP := Lib.hid (And.intro p0 (And.intro p1 (And.intro p2 (And.intro p3 (And.intro p4 (And.intro p5 p6)))))); clear hkp hf1 henc p0 p1 p2 p3 p4 p5 p6))
  obtain ⟨n1, hn1⟩ : ∃ n, w1.heap.size = n := ⟨_, rfl⟩
  obtain ⟨W1, hW1⟩ : ∃ W, w1.alloc (.cells #[.int .i64 xo, .slice a1 m1 c1, .slice a2 m2 c2, .slice a3 m3 c3] 37) = W := ⟨_, rfl⟩
  have hB : W1.heap[n1]? = some (.cells #[.int .i64 xo, .slice a1 m1 c1, .slice a2 m2 c2, .slice a3 m3 c3] 37) := by rw [← hW1, ← hn1]; exact heap_new _ _
  have hf01 : Fr (fun _ => False) w1 W1 := by rw [← hW1]; exact (Fr.refl _ w1).alloc _
  have hn1b : w.heap.size ≤ n1 ∧ n1 < W1.heap.size := ⟨by rw [← hn1]; exact HF1.out.size, (Array.getElem?_eq_some_iff.1 hB).1⟩
  have HB := Lib.hid hB; have HFW := Lib.hid (HF1.out.trans hf01); have HNB := Lib.hid hn1b
  have HKW := Lib.hid (HKP.out.keep hf01 (fun _ _ e => e))
  rw [hW1, hn1]
  clear hW1 hn1 hB hf01 hn1b
  have b1 : (m1 : Int) ≤ 16 := by have h := HP.out; have := HKW.out.he; omega
  have b2 : (m2 : Int) ≤ 16 := by have h := HP.out; have := HKW.out.pi; omega
  have b3 : (m3 : Int) ≤ 16 := by have h := HP.out; have := HKW.out.sh; omega
  have d1 := cell_obj HB.out 1 _ rfl
  have d2 := cell_obj HB.out 2 _ rfl
  have d3 := cell_obj HB.out 3 _ rfl
  obtain ⟨D, hD⟩ : ∃ D, (doS A 4 x.he).1 = D := ⟨_, rfl⟩
  have HD := Lib.hid hD
  clear hD
  by_cases h0 : ((m1 : Int) == 0) = true
  · go_wp2_with fail
    go_returns
    exact XA.no HE.out HFW.out _
  have h0' : ((m1 : Int) == 0) = false := by simpa using h0
  clear h0
  go_upto_region 8 with (go_at_call 81; refine (r8plus _ _ _ x.pi x.he (by have h := (HKW.out.ok.lp).1; rw [HP.out.2.2.1] at h; exact h) (by have h := (HKW.out.ok.lh).1; rw [HP.out.2.1] at h; exact h) HKW.out.pi HKW.out.he).mono ?_; rintro e w3 ⟨v3, L3, cc, rfl, hi3, hb3, hl3, hf3⟩; obtain ⟨ga, gc, e3⟩ := hi3.sl; obtain ⟨m4, hm4⟩ : ∃ m, L3.length = m := ⟨_, rfl⟩; rw [hm4] at e3; subst e3; have HI3 := Lib.hid hi3; have HB3 := Lib.hid hb3; have HL3 := Lib.hid hl3; have HF23 := Lib.hid hf3; have HM4 := Lib.hid hm4; clear hi3 hb3 hl3 hf3 hm4)
  all_goals
    have HF03 := Lib.hid (HFW.out.trans HF23.out)
    clear d1 d2 d3
    by_cases hc : (cc != 0) = true
    · go_wp2_with fail
      go_returns
      exact XA.no HE.out HF03.out _
    have hc' : (cc != 0) = false := by simpa using hc
    clear hc
    have hB3' := HF23.out.at_ HB.out (fun e => e)
    have HB3' := Lib.hid hB3'
    clear hB3'
    have HNB3 : Hid (n1 < w3.heap.size) := Lib.hid (Nat.lt_of_lt_of_le HNB.out.2 HF23.out.size)
    have hv3b : ∀ b, (Value.slice ga m4 gc).ownBlock = some b → w.heap.size ≤ b ∧ b ≠ n1 ∧ b < w3.heap.size := fun b hb => by
      have h1 := HB3.out b hb
      have h3 := HNB.out
      omega
    have HV3B := Lib.hid hv3b
    clear hv3b
    have hnT : ¬ T0 n1 := fun e => by have := HX.out.rs.lt n1 e; have := HNB.out.1; omega
    have HSRC : Hid (Il w3 (Value.slice a1 m1 c1) x.he ∧ (x.he ≠ [] → ∀ b, (Value.slice a1 m1 c1).ownBlock = some b → TL b)) := Lib.hid (by
      have hk3 := (HKW.out.keep HF23.out (fun _ _ e => e)).ok.lh
      rw [HP.out.2.1] at hk3
      exact hk3)
    go_upto_region 11 with (go_at_call 82; refine (r7Do _ g T0 A 4 _ x.he ((HX.out.keep HF03.out (fun _ _ e => e)).rs) HX.out.ok HSRC.out.1).mono ?_; rw [HD.out]; rintro e w4 ⟨rfl, T0', hr4, hs4⟩; have HR4 := Lib.hid hr4; have HS4 := Lib.hid hs4; clear hr4 hs4)
    by_cases hD0 : (D != 0) = true
    · go_wp2_with fail
      go_returns
      exact HX.out.err HLk.out HT.out HF03.out HR4.out (doS_ok HX.out.ok) HS4.out _
    have hD0' : (D != 0) = false := by simpa using hD0
    clear hD0
    have hB4 := HS4.out.1.at_ HB3'.out hnT
    have d0 := cell_obj hB4 0 _ rfl
    have d1 := cell_obj hB4 1 _ rfl
    have d2 := cell_obj hB4 2 _ rfl
    have d3 := cell_obj hB4 3 _ rfl
    have z1 := obj_frozen hB4 1
    have z2 := obj_frozen hB4 2
    have z3 := obj_frozen hB4 3
    clear hB4 hnT
    have HF5 : Hid (Fr (fun b => b = n1) w4 ((w4.setCell ⟨n1, 1, none⟩ (.slice none 0 0)).setCell ⟨n1, 2, none⟩ (.slice ga m4 gc))) := Lib.hid (((Fr.refl (fun b => b = n1) w4).setCell (p := ⟨n1, 1, none⟩) (fun _ => rfl) (.slice none 0 0)).setCell (p := ⟨n1, 2, none⟩) (fun _ => rfl) (.slice ga m4 gc))
    have HX5 := Lib.hid (HX.out.ahead HF03.out ⟨HNB.out.1, HNB3.out⟩ HR4.out (doS_ok HX.out.ok) HS4.out HF5.out)
    have HTB : Hid (∀ b, (TL b ∨ (w.heap.size ≤ b ∧ b ≠ n1 ∧ b < w3.heap.size)) → TL b ∨ (w.heap.size ≤ b ∧ b < w3.heap.size)) := Lib.hid (fun b hb => hb.imp id (fun e => ⟨e.1, e.2.2⟩))
    have HT5 := Lib.hid (HX.out.tb HF03.out HS4.out HF5.out HTB.out)
    have hkp5 : Kp ((w4.setCell ⟨n1, 1, none⟩ (.slice none 0 0)).setCell ⟨n1, 2, none⟩ (.slice ga m4 gc)) (fun b => TL b ∨ (w.heap.size ≤ b ∧ b ≠ n1 ∧ b < w3.heap.size)) ⟨xo, .slice none 0 0, .slice ga m4 gc, .slice a3 m3 c3, [], L3, x.sh⟩ := by
      have hk3 := HKW.out.keep HF23.out (fun _ _ e => e)
      obtain ⟨q0, q1, q2, q3, -⟩ := HP.out
      have l1 := hk3.ok.lh; have l2 := hk3.ok.lp; have l3 := hk3.ok.ls
      rw [q1] at l1; rw [q2] at l2; rw [q3] at l3
      exact ⟨⟨q0 ▸ hk3.ok.o, ⟨nilIl _, fun h => absurd rfl h⟩, ⟨HX.out.list HS4.out HF5.out HNB.out.1 HI3.out (fun _ b hb => .inr (HV3B.out b hb)), fun _ b hb => .inr (HV3B.out b hb)⟩, ⟨HX.out.list HS4.out HF5.out HNB.out.1 l3.1 (fun hn b hb => .inl (l3.2 hn b hb)), fun hn b hb => .inl (l3.2 hn b hb)⟩⟩, Nat.zero_le _, HL3.out, hk3.sh⟩
    have HK5 := Lib.hid hkp5
    clear hkp5
    go_wp2_with (go_at_call 83; refine (r8Set _ g T0' TL _ _ L vL ⟨xo, .slice none 0 0, .slice ga m4 gc, .slice a3 m3 c3, [], L3, x.sh⟩ HX5.out HK5.out HT5.out HL1.out).mono ?_; rintro e w6 hp6; obtain ⟨u6, rfl⟩ : ∃ u, e = .returned u := (by obtain ⟨⟨u, _, _, _, hu, _⟩⟩ := hp6; exact ⟨u, hu⟩); have HP6 := Lib.hid hp6; clear hp6)
    go_returns
    exact HX.out.fin HLk.out HT.out HF03.out HNB.out.1 HS4.out HF5.out HTB.out HSRC.out.1 (fun hn b hb => .inl (HSRC.out.2 hn b hb)) HP6.out
set_option maxRecDepth 100000 in
set_option maxHeartbeats 16000000 in
theorem r8Unpick (w : World) (g k : Nat) (TS : Nat → Prop) (o : Int) (h : XE w g TS k) (ho : okI o) (hk : k ≤ 1000) :
    Calls Tryz.prog 44 #[.pointer (some ⟨g, 0, none⟩), .int .i64 o] w (XA w g TS k) := by
  have HE := Lib.hid h
  obtain ⟨T0, TL, A, L, vL, hx, hl, hT⟩ := h
  have HX := Lib.hid hx; have HLk := Lib.hid hl; have HT := Lib.hid hT; have HO := Lib.hid ho
  have hL1 : (L.length : Int) ≤ 1000000 := by omega
  have HL1 := Lib.hid hL1
  have HMY := Lib.hid (fun W => r8may W o)
  obtain ⟨my, hmy⟩ : ∃ b, mayR o = b := ⟨_, rfl⟩
  rw [hmy] at HMY
  clear hx hl hT ho hmy hL1
  cases my with
  | false =>
    go_enter Tryz.func44, Tryz.ntmps44
    go_wp2_with (go_at_call 77; refine (HMY.out _).mono ?_; rintro e w1 ⟨rfl, rfl⟩)
    go_returns
    exact XA.no HE.out (Fr.refl _ _) _
  | true =>
  go_enter Tryz.func44, Tryz.ntmps44
  go_upto_region 4 with (first
    | (go_at_call 77; refine (HMY.out _).mono ?_; rintro e w1 ⟨rfl, rfl⟩)
    | (go_at_call 79; refine (r8Hold _ g T0 TL A L vL o HX.out HO.out HL1.out).mono ?_; rintro e w1 ⟨x, is, rfl, hkp, hf1⟩; obtain ⟨xo, a1, m1, c1, a2, m2, c2, a3, m3, c3, henc, p0, p1, p2, p3, p4, p5, p6⟩ := hkp.enc2; rw [henc]; have HKP := Lib.hid hkp; have HF1 := Lib.hid hf1; have HP := Lib.hid (And.intro p0 (And.intro p1 (And.intro p2 (And.intro p3 (And.intro p4 (And.intro p5 p6)))))); clear hkp hf1 henc p0 p1 p2 p3 p4 p5 p6))
  obtain ⟨n1, hn1⟩ : ∃ n, w1.heap.size = n := ⟨_, rfl⟩
  obtain ⟨W1, hW1⟩ : ∃ W, w1.alloc (.cells #[.int .i64 xo, .slice a1 m1 c1, .slice a2 m2 c2, .slice a3 m3 c3] 37) = W := ⟨_, rfl⟩
  have hB : W1.heap[n1]? = some (.cells #[.int .i64 xo, .slice a1 m1 c1, .slice a2 m2 c2, .slice a3 m3 c3] 37) := by rw [← hW1, ← hn1]; exact heap_new _ _
  have hf01 : Fr (fun _ => False) w1 W1 := by rw [← hW1]; exact (Fr.refl _ w1).alloc _
  have hn1b : w.heap.size ≤ n1 ∧ n1 < W1.heap.size := ⟨by rw [← hn1]; exact HF1.out.size, (Array.getElem?_eq_some_iff.1 hB).1⟩
  have HB := Lib.hid hB; have HFW := Lib.hid (HF1.out.trans hf01); have HNB := Lib.hid hn1b
  have HKW := Lib.hid (HKP.out.keep hf01 (fun _ _ e => e))
  rw [hW1, hn1]
  clear hW1 hn1 hB hf01 hn1b
  have b1 : (m1 : Int) ≤ 16 := by have h := HP.out; have := HKW.out.he; omega
  have b2 : (m2 : Int) ≤ 16 := by have h := HP.out; have := HKW.out.pi; omega
  have b3 : (m3 : Int) ≤ 16 := by have h := HP.out; have := HKW.out.sh; omega
  have d1 := cell_obj HB.out 1 _ rfl
  have d2 := cell_obj HB.out 2 _ rfl
  have d3 := cell_obj HB.out 3 _ rfl
  obtain ⟨D, hD⟩ : ∃ D, (doS A 5 x.pi).1 = D := ⟨_, rfl⟩
  have HD := Lib.hid hD
  clear hD
  by_cases h0 : ((m2 : Int) == 0) = true
  · go_wp2_with fail
    go_returns
    exact XA.no HE.out HFW.out _
  have h0' : ((m2 : Int) == 0) = false := by simpa using h0
  clear h0
  go_upto_region 8 with (go_at_call 81; refine (r8plus _ _ _ x.he x.pi (by have h := (HKW.out.ok.lh).1; rw [HP.out.2.1] at h; exact h) (by have h := (HKW.out.ok.lp).1; rw [HP.out.2.2.1] at h; exact h) HKW.out.he HKW.out.pi).mono ?_; rintro e w3 ⟨v3, L3, cc, rfl, hi3, hb3, hl3, hf3⟩; obtain ⟨ga, gc, e3⟩ := hi3.sl; obtain ⟨m4, hm4⟩ : ∃ m, L3.length = m := ⟨_, rfl⟩; rw [hm4] at e3; subst e3; have HI3 := Lib.hid hi3; have HB3 := Lib.hid hb3; have HL3 := Lib.hid hl3; have HF23 := Lib.hid hf3; have HM4 := Lib.hid hm4; clear hi3 hb3 hl3 hf3 hm4)
  all_goals
    have HF03 := Lib.hid (HFW.out.trans HF23.out)
    clear d1 d2 d3
    by_cases hc : (cc != 0) = true
    · go_wp2_with fail
      go_returns
      exact XA.no HE.out HF03.out _
    have hc' : (cc != 0) = false := by simpa using hc
    clear hc
    have hB3' := HF23.out.at_ HB.out (fun e => e)
    have HB3' := Lib.hid hB3'
    clear hB3'
    have HNB3 : Hid (n1 < w3.heap.size) := Lib.hid (Nat.lt_of_lt_of_le HNB.out.2 HF23.out.size)
    have hv3b : ∀ b, (Value.slice ga m4 gc).ownBlock = some b → w.heap.size ≤ b ∧ b ≠ n1 ∧ b < w3.heap.size := fun b hb => by
      have h1 := HB3.out b hb
      have h3 := HNB.out
      omega
    have HV3B := Lib.hid hv3b
    clear hv3b
    have hnT : ¬ T0 n1 := fun e => by have := HX.out.rs.lt n1 e; have := HNB.out.1; omega
    have HSRC : Hid (Il w3 (Value.slice a2 m2 c2) x.pi ∧ (x.pi ≠ [] → ∀ b, (Value.slice a2 m2 c2).ownBlock = some b → TL b)) := Lib.hid (by
      have hk3 := (HKW.out.keep HF23.out (fun _ _ e => e)).ok.lp
      rw [HP.out.2.2.1] at hk3
      exact hk3)
    go_upto_region 11 with (go_at_call 82; refine (r7Do _ g T0 A 5 _ x.pi ((HX.out.keep HF03.out (fun _ _ e => e)).rs) HX.out.ok HSRC.out.1).mono ?_; rw [HD.out]; rintro e w4 ⟨rfl, T0', hr4, hs4⟩; have HR4 := Lib.hid hr4; have HS4 := Lib.hid hs4; clear hr4 hs4)
    by_cases hD0 : (D != 0) = true
    · go_wp2_with fail
      go_returns
      exact HX.out.err HLk.out HT.out HF03.out HR4.out (doS_ok HX.out.ok) HS4.out _
    have hD0' : (D != 0) = false := by simpa using hD0
    clear hD0
    have hB4 := HS4.out.1.at_ HB3'.out hnT
    have d0 := cell_obj hB4 0 _ rfl
    have d1 := cell_obj hB4 1 _ rfl
    have d2 := cell_obj hB4 2 _ rfl
    have d3 := cell_obj hB4 3 _ rfl
    have z1 := obj_frozen hB4 1
    have z2 := obj_frozen hB4 2
    have z3 := obj_frozen hB4 3
    clear hB4 hnT
    have HF5 : Hid (Fr (fun b => b = n1) w4 ((w4.setCell ⟨n1, 2, none⟩ (.slice none 0 0)).setCell ⟨n1, 1, none⟩ (.slice ga m4 gc))) := Lib.hid (((Fr.refl (fun b => b = n1) w4).setCell (p := ⟨n1, 2, none⟩) (fun _ => rfl) (.slice none 0 0)).setCell (p := ⟨n1, 1, none⟩) (fun _ => rfl) (.slice ga m4 gc))
    have HX5 := Lib.hid (HX.out.ahead HF03.out ⟨HNB.out.1, HNB3.out⟩ HR4.out (doS_ok HX.out.ok) HS4.out HF5.out)
    have HTB : Hid (∀ b, (TL b ∨ (w.heap.size ≤ b ∧ b ≠ n1 ∧ b < w3.heap.size)) → TL b ∨ (w.heap.size ≤ b ∧ b < w3.heap.size)) := Lib.hid (fun b hb => hb.imp id (fun e => ⟨e.1, e.2.2⟩))
    have HT5 := Lib.hid (HX.out.tb HF03.out HS4.out HF5.out HTB.out)
    have hkp5 : Kp ((w4.setCell ⟨n1, 2, none⟩ (.slice none 0 0)).setCell ⟨n1, 1, none⟩ (.slice ga m4 gc)) (fun b => TL b ∨ (w.heap.size ≤ b ∧ b ≠ n1 ∧ b < w3.heap.size)) ⟨xo, .slice ga m4 gc, .slice none 0 0, .slice a3 m3 c3, L3, [], x.sh⟩ := by
      have hk3 := HKW.out.keep HF23.out (fun _ _ e => e)
      obtain ⟨q0, q1, q2, q3, -⟩ := HP.out
      have l1 := hk3.ok.lh; have l2 := hk3.ok.lp; have l3 := hk3.ok.ls
      rw [q1] at l1; rw [q2] at l2; rw [q3] at l3
      exact ⟨⟨q0 ▸ hk3.ok.o, ⟨HX.out.list HS4.out HF5.out HNB.out.1 HI3.out (fun _ b hb => .inr (HV3B.out b hb)), fun _ b hb => .inr (HV3B.out b hb)⟩, ⟨nilIl _, fun h => absurd rfl h⟩, ⟨HX.out.list HS4.out HF5.out HNB.out.1 l3.1 (fun hn b hb => .inl (l3.2 hn b hb)), fun hn b hb => .inl (l3.2 hn b hb)⟩⟩, HL3.out, Nat.zero_le _, hk3.sh⟩
    have HK5 := Lib.hid hkp5
    clear hkp5
    go_wp2_with (go_at_call 83; refine (r8Set _ g T0' TL _ _ L vL ⟨xo, .slice ga m4 gc, .slice none 0 0, .slice a3 m3 c3, L3, [], x.sh⟩ HX5.out HK5.out HT5.out HL1.out).mono ?_; rintro e w6 hp6; obtain ⟨u6, rfl⟩ : ∃ u, e = .returned u := (by obtain ⟨⟨u, _, _, _, hu, _⟩⟩ := hp6; exact ⟨u, hu⟩); have HP6 := Lib.hid hp6; clear hp6)
    go_returns
    exact HX.out.fin HLk.out HT.out HF03.out HNB.out.1 HS4.out HF5.out HTB.out HSRC.out.1 (fun hn b hb => .inl (HSRC.out.2 hn b hb)) HP6.out
set_option maxRecDepth 100000 in
set_option maxHeartbeats 16000000 in
theorem r8Ship (w : World) (g k : Nat) (TS : Nat → Prop) (o : Int) (h : XE w g TS k) (ho : okI o) (hk : k ≤ 1000) :
    Calls Tryz.prog 45 #[.pointer (some ⟨g, 0, none⟩), .int .i64 o] w (XA w g TS k) := by
  have HE := Lib.hid h
  obtain ⟨T0, TL, A, L, vL, hx, hl, hT⟩ := h
  have HX := Lib.hid hx; have HLk := Lib.hid hl; have HT := Lib.hid hT; have HO := Lib.hid ho
  have hL1 : (L.length : Int) ≤ 1000000 := by omega
  have HL1 := Lib.hid hL1
  have HMY := Lib.hid (fun W => r8may W o)
  obtain ⟨my, hmy⟩ : ∃ b, mayR o = b := ⟨_, rfl⟩
  rw [hmy] at HMY
  clear hx hl hT ho hmy hL1
  cases my with
  | false =>
    go_enter Tryz.func45, Tryz.ntmps45
    go_wp2_with (go_at_call 77; refine (HMY.out _).mono ?_; rintro e w1 ⟨rfl, rfl⟩)
    go_returns
    exact XA.no HE.out (Fr.refl _ _) _
  | true =>
  go_enter Tryz.func45, Tryz.ntmps45
  go_upto_region 4 with (first
    | (go_at_call 77; refine (HMY.out _).mono ?_; rintro e w1 ⟨rfl, rfl⟩)
    | (go_at_call 79; refine (r8Hold _ g T0 TL A L vL o HX.out HO.out HL1.out).mono ?_; rintro e w1 ⟨x, is, rfl, hkp, hf1⟩; obtain ⟨xo, a1, m1, c1, a2, m2, c2, a3, m3, c3, henc, p0, p1, p2, p3, p4, p5, p6⟩ := hkp.enc2; rw [henc]; have HKP := Lib.hid hkp; have HF1 := Lib.hid hf1; have HP := Lib.hid (And.intro p0 (And.intro p1 (And.intro p2 (And.intro p3 (And.intro p4 (And.intro p5 p6)))))); clear hkp hf1 henc p0 p1 p2 p3 p4 p5 p6))
  obtain ⟨n1, hn1⟩ : ∃ n, w1.heap.size = n := ⟨_, rfl⟩
  obtain ⟨W1, hW1⟩ : ∃ W, w1.alloc (.cells #[.int .i64 xo, .slice a1 m1 c1, .slice a2 m2 c2, .slice a3 m3 c3] 37) = W := ⟨_, rfl⟩
  have hB : W1.heap[n1]? = some (.cells #[.int .i64 xo, .slice a1 m1 c1, .slice a2 m2 c2, .slice a3 m3 c3] 37) := by rw [← hW1, ← hn1]; exact heap_new _ _
  have hf01 : Fr (fun _ => False) w1 W1 := by rw [← hW1]; exact (Fr.refl _ w1).alloc _
  have hn1b : w.heap.size ≤ n1 ∧ n1 < W1.heap.size := ⟨by rw [← hn1]; exact HF1.out.size, (Array.getElem?_eq_some_iff.1 hB).1⟩
  have HB := Lib.hid hB; have HFW := Lib.hid (HF1.out.trans hf01); have HNB := Lib.hid hn1b
  have HKW := Lib.hid (HKP.out.keep hf01 (fun _ _ e => e))
  rw [hW1, hn1]
  clear hW1 hn1 hB hf01 hn1b
  have b1 : (m1 : Int) ≤ 16 := by have h := HP.out; have := HKW.out.he; omega
  have b2 : (m2 : Int) ≤ 16 := by have h := HP.out; have := HKW.out.pi; omega
  have b3 : (m3 : Int) ≤ 16 := by have h := HP.out; have := HKW.out.sh; omega
  have d1 := cell_obj HB.out 1 _ rfl
  have d2 := cell_obj HB.out 2 _ rfl
  have d3 := cell_obj HB.out 3 _ rfl
  obtain ⟨D, hD⟩ : ∃ D, (doS A 6 x.pi).1 = D := ⟨_, rfl⟩
  have HD := Lib.hid hD
  clear hD
  by_cases h0 : ((m2 : Int) == 0) = true
  · go_wp2_with fail
    go_returns
    exact XA.no HE.out HFW.out _
  have h0' : ((m2 : Int) == 0) = false := by simpa using h0
  clear h0
  go_upto_region 8 with (go_at_call 81; refine (r8plus _ _ _ x.sh x.pi (by have h := (HKW.out.ok.ls).1; rw [HP.out.2.2.2.1] at h; exact h) (by have h := (HKW.out.ok.lp).1; rw [HP.out.2.2.1] at h; exact h) HKW.out.sh HKW.out.pi).mono ?_; rintro e w3 ⟨v3, L3, cc, rfl, hi3, hb3, hl3, hf3⟩; obtain ⟨ga, gc, e3⟩ := hi3.sl; obtain ⟨m4, hm4⟩ : ∃ m, L3.length = m := ⟨_, rfl⟩; rw [hm4] at e3; subst e3; have HI3 := Lib.hid hi3; have HB3 := Lib.hid hb3; have HL3 := Lib.hid hl3; have HF23 := Lib.hid hf3; have HM4 := Lib.hid hm4; clear hi3 hb3 hl3 hf3 hm4)
  all_goals
    have HF03 := Lib.hid (HFW.out.trans HF23.out)
    clear d1 d2 d3
    by_cases hc : (cc != 0) = true
    · go_wp2_with fail
      go_returns
      exact XA.no HE.out HF03.out _
    have hc' : (cc != 0) = false := by simpa using hc
    clear hc
    have hB3' := HF23.out.at_ HB.out (fun e => e)
    have HB3' := Lib.hid hB3'
    clear hB3'
    have HNB3 : Hid (n1 < w3.heap.size) := Lib.hid (Nat.lt_of_lt_of_le HNB.out.2 HF23.out.size)
    have hv3b : ∀ b, (Value.slice ga m4 gc).ownBlock = some b → w.heap.size ≤ b ∧ b ≠ n1 ∧ b < w3.heap.size := fun b hb => by
      have h1 := HB3.out b hb
      have h3 := HNB.out
      omega
    have HV3B := Lib.hid hv3b
    clear hv3b
    have hnT : ¬ T0 n1 := fun e => by have := HX.out.rs.lt n1 e; have := HNB.out.1; omega
    have HSRC : Hid (Il w3 (Value.slice a2 m2 c2) x.pi ∧ (x.pi ≠ [] → ∀ b, (Value.slice a2 m2 c2).ownBlock = some b → TL b)) := Lib.hid (by
      have hk3 := (HKW.out.keep HF23.out (fun _ _ e => e)).ok.lp
      rw [HP.out.2.2.1] at hk3
      exact hk3)
    go_upto_region 11 with (go_at_call 82; refine (r7Do _ g T0 A 6 _ x.pi ((HX.out.keep HF03.out (fun _ _ e => e)).rs) HX.out.ok HSRC.out.1).mono ?_; rw [HD.out]; rintro e w4 ⟨rfl, T0', hr4, hs4⟩; have HR4 := Lib.hid hr4; have HS4 := Lib.hid hs4; clear hr4 hs4)
    by_cases hD0 : (D != 0) = true
    · go_wp2_with fail
      go_returns
      exact HX.out.err HLk.out HT.out HF03.out HR4.out (doS_ok HX.out.ok) HS4.out _
    have hD0' : (D != 0) = false := by simpa using hD0
    clear hD0
    have hB4 := HS4.out.1.at_ HB3'.out hnT
    have d0 := cell_obj hB4 0 _ rfl
    have d1 := cell_obj hB4 1 _ rfl
    have d2 := cell_obj hB4 2 _ rfl
    have d3 := cell_obj hB4 3 _ rfl
    have z1 := obj_frozen hB4 1
    have z2 := obj_frozen hB4 2
    have z3 := obj_frozen hB4 3
    clear hB4 hnT
    have HF5 : Hid (Fr (fun b => b = n1) w4 ((w4.setCell ⟨n1, 2, none⟩ (.slice none 0 0)).setCell ⟨n1, 3, none⟩ (.slice ga m4 gc))) := Lib.hid (((Fr.refl (fun b => b = n1) w4).setCell (p := ⟨n1, 2, none⟩) (fun _ => rfl) (.slice none 0 0)).setCell (p := ⟨n1, 3, none⟩) (fun _ => rfl) (.slice ga m4 gc))
    have HX5 := Lib.hid (HX.out.ahead HF03.out ⟨HNB.out.1, HNB3.out⟩ HR4.out (doS_ok HX.out.ok) HS4.out HF5.out)
    have HTB : Hid (∀ b, (TL b ∨ (w.heap.size ≤ b ∧ b ≠ n1 ∧ b < w3.heap.size)) → TL b ∨ (w.heap.size ≤ b ∧ b < w3.heap.size)) := Lib.hid (fun b hb => hb.imp id (fun e => ⟨e.1, e.2.2⟩))
    have HT5 := Lib.hid (HX.out.tb HF03.out HS4.out HF5.out HTB.out)
    have hkp5 : Kp ((w4.setCell ⟨n1, 2, none⟩ (.slice none 0 0)).setCell ⟨n1, 3, none⟩ (.slice ga m4 gc)) (fun b => TL b ∨ (w.heap.size ≤ b ∧ b ≠ n1 ∧ b < w3.heap.size)) ⟨xo, .slice a1 m1 c1, .slice none 0 0, .slice ga m4 gc, x.he, [], L3⟩ := by
      have hk3 := HKW.out.keep HF23.out (fun _ _ e => e)
      obtain ⟨q0, q1, q2, q3, -⟩ := HP.out
      have l1 := hk3.ok.lh; have l2 := hk3.ok.lp; have l3 := hk3.ok.ls
      rw [q1] at l1; rw [q2] at l2; rw [q3] at l3
      exact ⟨⟨q0 ▸ hk3.ok.o, ⟨HX.out.list HS4.out HF5.out HNB.out.1 l1.1 (fun hn b hb => .inl (l1.2 hn b hb)), fun hn b hb => .inl (l1.2 hn b hb)⟩, ⟨nilIl _, fun h => absurd rfl h⟩, ⟨HX.out.list HS4.out HF5.out HNB.out.1 HI3.out (fun _ b hb => .inr (HV3B.out b hb)), fun _ b hb => .inr (HV3B.out b hb)⟩⟩, hk3.he, Nat.zero_le _, HL3.out⟩
    have HK5 := Lib.hid hkp5
    clear hkp5
    go_wp2_with (go_at_call 83; refine (r8Set _ g T0' TL _ _ L vL ⟨xo, .slice a1 m1 c1, .slice none 0 0, .slice ga m4 gc, x.he, [], L3⟩ HX5.out HK5.out HT5.out HL1.out).mono ?_; rintro e w6 hp6; obtain ⟨u6, rfl⟩ : ∃ u, e = .returned u := (by obtain ⟨⟨u, _, _, _, hu, _⟩⟩ := hp6; exact ⟨u, hu⟩); have HP6 := Lib.hid hp6; clear hp6)
    go_returns
    exact HX.out.fin HLk.out HT.out HF03.out HNB.out.1 HS4.out HF5.out HTB.out HSRC.out.1 (fun hn b hb => .inl (HSRC.out.2 hn b hb)) HP6.out
structure XD (w : World) (g : Nat) (TS : Nat → Prop) (k : Nat) (e : Ending) (w' : World) : Prop where
  ex : ∃ c TS', e = .returned (.int .i64 c) ∧ XE w' g TS' (k + 1) ∧ Stp TS w w' TS'
set_option maxRecDepth 100000 in
set_option maxHeartbeats 8000000 in
theorem r8Do (w : World) (g k : Nat) (TS : Nat → Prop) (kd : Int) (v : Value) (L0 : Its) (h : XE w g TS k) (hv : Il w v L0) :
    Calls Tryz.prog 46 #[.pointer (some ⟨g, 0, none⟩), .int .i64 kd, v] w (XD w g TS k) := by
  have HE := Lib.hid h
  obtain ⟨T0, TL, A, L, vL, hx, hl, hT⟩ := h
  have HX := Lib.hid hx; have HLk := Lib.hid hl; have HT := Lib.hid hT; have HV := Lib.hid hv
  obtain ⟨a, c, rfl⟩ := hv.sl
  obtain ⟨N, hN⟩ : ∃ N, L0.length = N := ⟨_, rfl⟩
  rw [hN] at HV ⊢
  have HD := Lib.hid (fun kd => r7Do w g T0 A kd _ L0 hx.rs hx.ok HV.out)
  clear hx hl hT hv hN
  have hq : ∀ n : Int, (kd == n) = true ∨ (kd == n) = false := fun n => by cases (kd == n) <;> simp
  have hfin : Hid (∀ (w' : World) (T0' : Nat → Prop), RSX ([vL], 46) w' g T0' (doS A kd L0).2 → Stp T0 w w' T0' → ∃ TS', XE w' g TS' (k + 1) ∧ Stp TS w w' TS') := Lib.hid (fun w' T0' hr hs => by
    obtain ⟨⟨v', L', c', TS', -, -, h1, h2⟩⟩ := HX.out.err HLk.out HT.out (Fr.refl _ _) hr (doS_ok HX.out.ok) hs 0
    exact ⟨TS', h1, h2⟩)
  by_cases hk : kd = 1 ∨ kd = 7 ∨ kd = 8 ∨ kd = 9 ∨ kd = 10 ∨ kd = 11
  · rcases hk with rfl | rfl | rfl | rfl | rfl | rfl
    all_goals
      go_enter Tryz.func46, Tryz.ntmps46
      go_wp2_with (go_at_call 82; refine (HD.out _).mono ?_; rintro e w4 ⟨rfl, T0', hr4, hs4⟩; have hX := Lib.hid (hfin.out _ _ hr4 hs4); clear hr4 hs4)
      go_ret
      obtain ⟨TS', h1, h2⟩ := hX.out
      exact ⟨⟨_, TS', rfl, h1, h2⟩⟩
  · have q1 : (kd == 1) = false := by simp; omega
    have q2 : (kd == 7) = false := by simp; omega
    have q3 : (kd == 8) = false := by simp; omega
    have q4 : (kd == 9) = false := by simp; omega
    have q5 : (kd == 10) = false := by simp; omega
    have q6 : (kd == 11) = false := by simp; omega
    clear hk hq
    go_enter Tryz.func46, Tryz.ntmps46
    go_wp2_with fail
    go_ret
    exact ⟨⟨_, TS, rfl, HE.out.up (Nat.le_succ _), Stp.refl (Fr.refl _ _)⟩⟩
end Go.Proofs.YtogphlnakdnchaaGreat

namespace Go.Proofs.YtogphlnakdnchaaGreat
open Go.RowKit Go.Maps
/-- A list's counts are added to a map. -/
def addAt (H : Its) (p : Str × Int) : Its := putS ktS.lt H p.1 ((getS H p.1).getD 0 + p.2)
def addAll (H L : Its) : Its := L.foldl addAt H
theorem addAll_take {H L : Its} {k : Nat} {p : Str × Int} (h : L[k]? = some p) : addAll H (L.take (k + 1)) = addAt (addAll H (L.take k)) p := by
  unfold addAll
  rw [List.take_add_one, h, List.foldl_append]
  rfl
structure AddOk (H' H L : Its) : Prop where
  rise : RiseS H'
  get : ∀ s, getI H' s = getI H s + getI L s
  key : ∀ s, (getS H' s).isSome = true ↔ ((getS H s).isSome = true ∨ ∃ p ∈ L, p.1 = s)
theorem AddOk.refl {H : Its} (h : RiseS H) : AddOk H H [] := ⟨h, fun s => by rw [getI_nil]; omega, fun s => ⟨.inl, fun e => e.elim id (fun ⟨p, hp, _⟩ => by cases hp)⟩⟩
theorem AddOk.step {H' H L : Its} {p : Str × Int} (h : AddOk H' H L) : AddOk (addAt H' p) H (L ++ [p]) := by
  refine ⟨riseS_put h.rise, fun s => ?_, fun s => ?_⟩
  · unfold addAt
    rw [getI_rise s (riseS_put h.rise), getK_put (riseS_nd h.rise), getI_app, getI_cons, getI_nil]
    have h1 := h.get s
    rw [getI_rise s h.rise] at h1
    by_cases e : p.1 = s
    · subst e
      rw [if_pos rfl, if_pos rfl]
      simp only [Option.getD_some]
      omega
    · rw [if_neg e, if_neg e]; omega
  · unfold addAt
    rw [getK_put (riseS_nd h.rise)]
    by_cases e : p.1 = s
    · rw [if_pos e]
      exact ⟨fun _ => .inr ⟨p, by simp, e⟩, fun _ => rfl⟩
    · rw [if_neg e, h.key s]
      constructor
      · rintro (h1 | ⟨q, hq, e1⟩)
        · exact .inl h1
        · exact .inr ⟨q, by simp [hq], e1⟩
      · rintro (h1 | ⟨q, hq, e1⟩)
        · exact .inl h1
        · rcases List.mem_append.1 hq with hq | hq
          · exact .inr ⟨q, hq, e1⟩
          · simp only [List.mem_cons, List.not_mem_nil, or_false] at hq
            subst hq
            exact absurd e1 e
theorem addAll_ok' : ∀ (B A H' H : Its), AddOk H' H A → AddOk (addAll H' B) H (A ++ B)
  | [], A, H', H, h => by rw [List.append_nil]; exact h
  | p :: r, A, H', H, h => by
    have := addAll_ok' r (A ++ [p]) (addAt H' p) H h.step
    rw [List.append_assoc] at this
    exact this
theorem addAll_ok {H : Its} (L : Its) (h : RiseS H) : AddOk (addAll H L) H L := by
  have := addAll_ok' L [] H H (AddOk.refl h)
  simpa using this
theorem addAll_len (H L : Its) : (addAll H L).length ≤ H.length + L.length := by
  induction L generalizing H with
  | nil => exact Nat.le_refl _
  | cons p r ih =>
    have h1 := ih (addAt H p)
    have h2 := putK_len ktS.lt H p.1 ((getS H p.1).getD 0 + p.2)
    rw [List.length_cons]
    unfold addAll at h1 ⊢
    rw [List.foldl_cons]
    unfold addAt at h1 ⊢
    omega
/-- What the entries that are left no more say together. -/
def sumOf {ν : Type} (left : Lit → Bool) (l : List (Int × ν)) (f : ν → Int) : Int := ((l.filter fun p => !left (ktI.lit p.1)).map fun p => f p.2).sum
section
variable {ν : Type}
theorem litI_same (x y : Int) : (ktI.lit x).sameKey (ktI.lit y) = decide (x = y) := by simp [ktI, Lit.sameKey]
theorem sumOf_cons (left : Lit → Bool) (p : Int × ν) (r : List (Int × ν)) (f : ν → Int) : sumOf left (p :: r) f = (if left (ktI.lit p.1) = true then 0 else f p.2) + sumOf left r f := by
  unfold sumOf
  rw [List.filter_cons]
  cases left (ktI.lit p.1) <;> simp
theorem sumOf_rest {left : Lit → Bool} {f : ν → Int} {x : Int} : ∀ {l : List (Int × ν)}, x ∉ l.map (·.1) → sumOf (fun z => left z && !z.sameKey (ktI.lit x)) l f = sumOf left l f
  | [], _ => rfl
  | p :: r, h => by
    rw [List.map_cons, List.mem_cons, not_or] at h
    rw [sumOf_cons, sumOf_cons, sumOf_rest h.2, litI_same]
    have : decide (p.1 = x) = false := by simpa using fun e => h.1 e.symm
    rw [this]
    simp
theorem sumOf_step {left : Lit → Bool} {f : ν → Int} {x : Int} {v : ν} (hl : left (ktI.lit x) = true) : ∀ {l : List (Int × ν)}, (l.map (·.1)).Nodup → getS l x = some v →
    sumOf (fun z => left z && !z.sameKey (ktI.lit x)) l f = sumOf left l f + f v
  | [], _, h => by cases h
  | p :: r, hn, h => by
    rw [List.map_cons, List.nodup_cons] at hn
    rw [sumOf_cons, sumOf_cons, litI_same]
    by_cases e : p.1 = x
    · subst e
      simp only [getS, if_pos] at h
      cases h
      rw [sumOf_rest hn.1]
      simp [hl]
      omega
    · simp only [getS, if_neg e] at h
      rw [sumOf_step hl hn.2 h]
      simp [e]
      omega
theorem sumOf_none {left : Lit → Bool} (h : ∀ k, left k = false) (l : List (Int × ν)) (f : ν → Int) : sumOf left l f = (l.map fun p => f p.2).sum := by
  unfold sumOf
  congr 2
  exact List.filter_eq_self.2 (fun p _ => by simp [h])
theorem sumOf_all {left : Lit → Bool} {l : List (Int × ν)} (h : ∀ p ∈ l, left (ktI.lit p.1) = true) (f : ν → Int) : sumOf left l f = 0 := by
  unfold sumOf
  have : l.filter (fun p => !left (ktI.lit p.1)) = [] := List.filter_eq_nil_iff.2 (fun p hp => by simp [h p hp])
  rw [this]; rfl
theorem sumOf_le {left : Lit → Bool} {f : ν → Int} {B : Int} (hB : 0 ≤ B) : ∀ {l : List (Int × ν)}, (∀ p ∈ l, 0 ≤ f p.2 ∧ f p.2 ≤ B) → 0 ≤ sumOf left l f ∧ sumOf left l f ≤ (l.length : Int) * B
  | [], _ => ⟨Int.le_refl _, by simp [sumOf]⟩
  | p :: r, h => by
    have ih := sumOf_le (left := left) hB (l := r) (fun q hq => h q (by simp [hq]))
    have h1 := h p (by simp)
    rw [sumOf_cons, List.length_cons, Int.natCast_add, Int.add_mul]
    constructor
    · split <;> omega
    · split <;> omega
end
/-- A map that holds what the entries that are left no more say together. -/
structure SdW {ν : Type} (H : Its) (left : Lit → Bool) (l : List (Int × ν)) (f : ν → Its) : Prop where
  rise : RiseS H
  get : ∀ s, getI H s = sumOf left l (fun h => getI (f h) s)
  key : ∀ s, (getS H s).isSome = true ↔ ∃ p ∈ l, left (ktI.lit p.1) = false ∧ ∃ q ∈ f p.2, q.1 = s
  len : (H.length : Int) ≤ 16 * sumOf left l (fun _ => 1)
theorem SdW.start {ν : Type} {left : Lit → Bool} {l : List (Int × ν)} {f : ν → Its} (h : ∀ p ∈ l, left (ktI.lit p.1) = true) : SdW [] left l f :=
  ⟨List.Pairwise.nil, fun s => by rw [sumOf_all h]; rfl, fun s => ⟨fun e => (by cases e), fun ⟨p, hp, e, _⟩ => (by rw [h p hp] at e; cases e)⟩, by rw [sumOf_all h]; simp⟩
theorem SdW.step {ν : Type} {H : Its} {left : Lit → Bool} {l : List (Int × ν)} {f : ν → Its} {x : Int} {v : ν} (h : SdW H left l f) (hl : left (ktI.lit x) = true) (hn : (l.map (·.1)).Nodup) (hx : getS l x = some v) (h16 : (f v).length ≤ 16) :
    SdW (addAll H (f v)) (fun z => left z && !z.sameKey (ktI.lit x)) l f := by
  have ha := addAll_ok (f v) h.rise
  refine ⟨ha.rise, fun s => ?_, fun s => ?_, ?_⟩
  · rw [ha.get, h.get, sumOf_step hl hn hx]
  · rw [ha.key, h.key]
    constructor
    · rintro (⟨p, hp, e, q, hq, e2⟩ | ⟨q, hq, e2⟩)
      · exact ⟨p, hp, by simp [e], q, hq, e2⟩
      · exact ⟨(x, v), getK_mem hx, by simp [litI_same], q, hq, e2⟩
    · rintro ⟨p, hp, e, q, hq, e2⟩
      by_cases e3 : p.1 = x
      · have : p.2 = v := by
          have h1 := getK_of hn (x := p.1) (v := p.2) hp
          rw [e3, hx] at h1
          exact (Option.some.inj h1).symm
        exact .inr ⟨q, by rw [← this]; exact hq, e2⟩
      · rw [litI_same] at e
        simp [e3] at e
        exact .inl ⟨p, hp, e, q, hq, e2⟩
  · rw [sumOf_step hl hn hx]
    have h1 := addAll_len H (f v)
    have h2 := h.len
    omega
theorem SdW.bound {ν : Type} {H : Its} {left : Lit → Bool} {l : List (Int × ν)} {f : ν → Its} (h : SdW H left l f) (hl : l.length ≤ 256) : H.length ≤ 4096 := by
  have h1 := h.len
  have h2 := sumOf_le (left := left) (f := fun _ : ν => (1 : Int)) (B := 1) (by omega) (l := l) (fun p _ => ⟨by omega, by omega⟩)
  omega
theorem SdW.done {ν : Type} {H : Its} {left : Lit → Bool} {l : List (Int × ν)} {f : ν → Its} (h : SdW H left l f) (hl : ∀ k, left k = false) (s : Str) : (getS H s).getD 0 = (l.map fun p => getI (f p.2) s).sum ∧ ((getS H s).isSome = true ↔ ∃ p ∈ l, ∃ q ∈ f p.2, q.1 = s) := by
  constructor
  · rw [← getI_rise s h.rise, h.get, sumOf_none hl]
  · rw [h.key]
    exact ⟨fun ⟨p, hp, _, q, hq, e⟩ => ⟨p, hp, q, hq, e⟩, fun ⟨p, hp, q, hq, e⟩ => ⟨p, hp, hl _, q, hq, e⟩⟩
theorem getI_may {L : Its} (h : mayL L = true) (s : Str) : 0 ≤ getI L s ∧ getI L s ≤ 1099511627776 := by
  have hk := mayL_all h
  rw [getI_rise s hk.rise]
  cases e : getS L s with
  | none => exact ⟨Int.le_refl _, by simp⟩
  | some v => have := (hk.row _ (getK_mem e)).2; simp only [Option.getD_some]; simp only at this; omega
theorem snd_bound {ν : Type} {H : Its} {left : Lit → Bool} {l : List (Int × ν)} {f : ν → Its} {L : Its} {k : Nat} {p : Str × Int} (h : SdW H left l f) (hm : ∀ p ∈ l, mayL (f p.2) = true) (hl : l.length ≤ 256) (hL : mayL L = true) (hp : L[k]? = some p) :
    0 ≤ (getS (addAll H (L.take k)) p.1).getD 0 + p.2 ∧ (getS (addAll H (L.take k)) p.1).getD 0 + p.2 ≤ 1125899906842624 := by
  have ha := addAll_ok (L.take k) h.rise
  rw [← getI_rise p.1 ha.rise, ha.get, h.get]
  have h1 := sumOf_le (left := left) (f := fun h => getI (f h) p.1) (B := 1099511627776) (by omega) (l := l) (fun q hq => getI_may (hm q hq) p.1)
  have hpos : ∀ q ∈ L, 0 ≤ q.2 := fun q hq => by have := (mayL_all hL).row q hq; omega
  have h2 : getI L p.1 = getI (L.take (k + 1)) p.1 + getI (L.drop (k + 1)) p.1 := by rw [← getI_app, List.take_append_drop]
  have h3 : getI (L.take (k + 1)) p.1 = getI (L.take k) p.1 + p.2 := by
    rw [List.take_add_one, hp, getI_app]
    simp only [Option.toList_some]
    rw [getI_cons, if_pos rfl, getI_nil]; omega
  have h4 : 0 ≤ getI (L.drop (k + 1)) p.1 := getI_nn p.1 (fun q hq => hpos q (List.mem_of_mem_drop hq))
  have h5 : 0 ≤ getI (L.take k) p.1 := getI_nn p.1 (fun q hq => hpos q (List.mem_of_mem_take hq))
  have h6 := getI_may hL p.1
  have h7 := hpos p (List.mem_of_getElem? hp)
  have h8 : (l.length : Int) * 1099511627776 ≤ 256 * 1099511627776 := by omega
  omega
/-- How many of a good all holds together say. -/
def allE (f : HE → Its) (le : Hes) (s : Str) : Int := (le.map fun p => getI (f p.2) s).sum
/-- Are all holds together the stock's? -/
def soundE (A : Stk) (le : Hes) : Bool :=
  (A.all fun r => decide (r.2.held = allE HE.he le r.1) && decide (r.2.picked = allE HE.pi le r.1)) &&
  (le.all fun p => ((p.2.he ++ p.2.pi).all fun q => (getS A q.1).isSome))
theorem getS_del {κ ν : Type} [DecidableEq κ] (x y : κ) : ∀ l : List (κ × ν), getS (delS l x) y = if x = y then none else getS l y
  | [] => by simp [delS, getS]
  | p :: r => by
    have ih := getS_del x y r
    simp only [delS] at ih ⊢
    by_cases e : p.1 = x
    · simp only [List.filter_cons, e, decide_true, Bool.not_true, Bool.false_eq_true, if_false, getS, ih]
      by_cases e2 : x = y <;> simp [e2]
    · simp only [List.filter_cons, e, decide_false, Bool.not_false, if_true, getS, ih]
      by_cases e2 : p.1 = y
      · have : x ≠ y := fun h => e (e2.trans h.symm)
        simp [e2, this]
      · simp [e2]
/-- A map without some keys. -/
def delAll (H : Its) (ks : List Str) : Its := ks.foldl delS H
theorem delAll_take {H : Its} {ks : List Str} {k : Nat} {s : Str} (h : ks[k]? = some s) : delAll H (ks.take (k + 1)) = delS (delAll H (ks.take k)) s := by
  unfold delAll
  rw [List.take_add_one, h, List.foldl_append]
  rfl
theorem getS_delAll (s : Str) : ∀ (ks : List Str) (H : Its), getS (delAll H ks) s = if s ∈ ks then none else getS H s
  | [], H => by simp [delAll]
  | k :: r, H => by
    have ih := getS_delAll s r (delS H k)
    unfold delAll at ih ⊢
    rw [List.foldl_cons, ih, getS_del]
    by_cases h1 : s ∈ r
    · simp [h1]
    · by_cases h2 : k = s
      · subst h2; simp
      · have h3 : ¬ s = k := fun e => h2 e.symm
        simp [h1, h2, h3]
theorem delAll_nil {H : Its} {ks : List Str} : (delAll H ks).length = 0 ↔ ∀ p ∈ H, p.1 ∈ ks := by
  rw [List.length_eq_zero_iff]
  constructor
  · intro h p hp
    have h1 := getS_delAll p.1 ks H
    rw [h] at h1
    by_cases e : p.1 ∈ ks
    · exact e
    · rw [if_neg e] at h1
      exact absurd rfl (getK_none.1 h1.symm p hp)
  · intro h
    cases e : delAll H ks with
    | nil => rfl
    | cons q r =>
      have h1 := getS_delAll q.1 ks H
      rw [e] at h1
      simp only [getS, if_pos] at h1
      split at h1
      · cases h1
      · rename_i hn
        cases e2 : getS H q.1 with
        | none => rw [e2] at h1; cases h1
        | some v => exact absurd (h _ (getK_mem e2)) hn
theorem delAll_len : ∀ (ks : List Str) (H : Its), (delAll H ks).length ≤ H.length
  | [], H => Nat.le_refl _
  | k :: r, H => by
    have h1 := delAll_len r (delS H k)
    have h2 : (delS H k).length ≤ H.length := List.length_filter_le _ _
    unfold delAll at h1 ⊢
    rw [List.foldl_cons]
    omega
theorem isSome_mem {A : Stk} {s : Str} : (getS A s).isSome = true ↔ s ∈ A.map (·.1) := by
  constructor
  · intro h
    cases e : getS A s with
    | none => rw [e] at h; cases h
    | some v => exact List.mem_map.2 ⟨_, getK_mem e, rfl⟩
  · intro h
    obtain ⟨p, hp, rfl⟩ := List.mem_map.1 h
    cases e : getS A p.1 with
    | some v => rfl
    | none => exact absurd rfl (getK_none.1 e p hp)
theorem hmap_sum (f : HE → Its) (g : HV → Its) (hfg : ∀ x : HV, f x.e = g x) (l : List (Int × HV)) (s : Str) : allE f (mapE l) s = (l.map fun p => getI (g p.2) s).sum := by
  unfold allE mapE
  rw [List.map_map]
  congr 1
  exact List.map_congr_left (fun p _ => by simp [hfg])
/-- The whole test, by what the two maps hold. -/
theorem sound_of {A : Stk} {l : List (Int × HV)} {H P : Its} {left : Lit → Bool} (hw : SdW H left l HV.he) (pw : SdW P left l HV.pi) (hl : ∀ k, left k = false) :
    soundE A (mapE l) = true ↔ ((∀ r ∈ A, r.2.held = (getS H r.1).getD 0 ∧ r.2.picked = (getS P r.1).getD 0) ∧ (delAll H (A.map (·.1))).length = 0 ∧ (delAll P (A.map (·.1))).length = 0) := by
  unfold soundE
  rw [Bool.and_eq_true, List.all_eq_true, List.all_eq_true, delAll_nil, delAll_nil]
  have e1 : ∀ s, allE HE.he (mapE l) s = (getS H s).getD 0 := fun s => by rw [(hw.done hl s).1]; exact hmap_sum HE.he HV.he (fun _ => rfl) l s
  have e2 : ∀ s, allE HE.pi (mapE l) s = (getS P s).getD 0 := fun s => by rw [(pw.done hl s).1]; exact hmap_sum HE.pi HV.pi (fun _ => rfl) l s
  have k1 : ∀ s, (∃ p ∈ H, p.1 = s) ↔ ∃ p ∈ l, ∃ q ∈ p.2.he, q.1 = s := fun s => by
    rw [← (hw.done hl s).2]
    exact ⟨fun ⟨p, hp, e⟩ => by rw [← e, getK_of (riseS_nd hw.rise) (x := p.1) (v := p.2) hp]; rfl, fun h => by
      cases e : getS H s with
      | none => rw [e] at h; cases h
      | some v => exact ⟨_, getK_mem e, rfl⟩⟩
  have k2 : ∀ s, (∃ p ∈ P, p.1 = s) ↔ ∃ p ∈ l, ∃ q ∈ p.2.pi, q.1 = s := fun s => by
    rw [← (pw.done hl s).2]
    exact ⟨fun ⟨p, hp, e⟩ => by rw [← e, getK_of (riseS_nd pw.rise) (x := p.1) (v := p.2) hp]; rfl, fun h => by
      cases e : getS P s with
      | none => rw [e] at h; cases h
      | some v => exact ⟨_, getK_mem e, rfl⟩⟩
  refine and_congr ⟨fun h r hr => ?_, fun h r hr => ?_⟩ ⟨fun h => ⟨fun p hp => ?_, fun p hp => ?_⟩, fun h x hx => ?_⟩
  · have := h r hr
    rw [Bool.and_eq_true, decide_eq_true_eq, decide_eq_true_eq, e1, e2] at this
    exact this
  · rw [Bool.and_eq_true, decide_eq_true_eq, decide_eq_true_eq, e1, e2]
    exact h r hr
  · obtain ⟨y, hy, q, hq, e⟩ := (k1 p.1).1 ⟨p, hp, rfl⟩
    have := h (y.1, y.2.e) (List.mem_map.2 ⟨y, hy, rfl⟩)
    rw [List.all_eq_true] at this
    have := this q (List.mem_append_left _ hq)
    rw [isSome_mem, e] at this
    exact this
  · obtain ⟨y, hy, q, hq, e⟩ := (k2 p.1).1 ⟨p, hp, rfl⟩
    have := h (y.1, y.2.e) (List.mem_map.2 ⟨y, hy, rfl⟩)
    rw [List.all_eq_true] at this
    have := this q (List.mem_append_right _ hq)
    rw [isSome_mem, e] at this
    exact this
  · obtain ⟨y, hy, rfl⟩ := List.mem_map.1 hx
    rw [List.all_eq_true]
    intro q hq
    rw [isSome_mem]
    rcases List.mem_append.1 hq with hq | hq
    · obtain ⟨p, hp, e⟩ := (k1 q.1).2 ⟨y, hy, q, hq, rfl⟩
      rw [← e]; exact h.1 p hp
    · obtain ⟨p, hp, e⟩ := (k2 q.1).2 ⟨y, hy, q, hq, rfl⟩
      rw [← e]; exact h.2 p hp
end Go.Proofs.YtogphlnakdnchaaGreat

namespace Go.Proofs.YtogphlnakdnchaaGreat
open Go.RowKit Go.Maps
section
variable {w : World} {g gs m : Nat} {T0 TB : Nat → Prop} {A : Stk} {l : List (Int × HV)}
theorem hStock (h : SB w g gs m T0 TB A l) : Calls Tryz.prog 22 #[.pointer (some ⟨g, 0, none⟩)] w fun e w' => ∃ g' TS', e = .returned (.pointer (some ⟨g', 0, none⟩)) ∧ SA w' g' TS' A ∧ Fr (fun _ => False) w w' ∧ ∀ b, TS' b → w.heap.size ≤ b := by
  obtain ⟨c0, c1⟩ := h.cells
  have hF := Lib.hid (sFork w gs T0 A h.stk)
  have hm := Lib.hid (hmade w g m c1)
  clear h
  go_enter Tryz.func22, Tryz.ntmps22
  go_wp2_with (first
    | (go_at_call 39; refine hm.out.mono ?_; rintro e w' ⟨rfl, rfl⟩)
    | (go_at_call 57; refine hF.out.mono ?_; rintro e w2 ⟨g', TS', rfl, h1, h2, h3⟩; have H1 := Lib.hid h1; have H2 := Lib.hid h2; have H3 := Lib.hid h3; clear h1 h2 h3))
  go_ret
  exact ⟨g', TS', rfl, H1.out, H2.out, H3.out⟩
theorem hCount (s : Str) (n : Int) (h : SB w g gs m T0 TB A l) (hs : okS s) (hA : SOk A) : Calls Tryz.prog 20 #[.pointer (some ⟨g, 0, none⟩), vS s, .int .i64 n] w fun e w' => e = .returned (.tuple #[.int .i64 (countS A s n).1, .int .i64 (countS A s n).2.1]) ∧ SB w' g gs m T0 TB (countS A s n).2.2 l ∧ Fr T0 w w' := by
  obtain ⟨c0, c1⟩ := h.cells
  have hF := sCount w gs T0 A s n h.stk hs hA
  have hm := Lib.hid (hmade w g m c1)
  have HH := Lib.hid h
  obtain ⟨⟨R1, R2, B⟩, hR⟩ : ∃ R, countS A s n = R := ⟨_, rfl⟩
  rw [hR] at hF ⊢
  have HF := Lib.hid hF
  clear h hF hR
  go_enter Tryz.func20, Tryz.ntmps20
  go_wp2_with (first
    | (go_at_call 39; refine hm.out.mono ?_; rintro e w' ⟨rfl, rfl⟩)
    | (go_at_call 56; refine HF.out.mono ?_; rintro e w2 ⟨rfl, h1, h2⟩; have H1 := Lib.hid h1; have H2 := Lib.hid h2; clear h1 h2))
  go_ret2
  exact ⟨rfl, HH.out.stock H1.out ⟨H2.out, fun b hb => .inl hb⟩, H2.out⟩
def inDo (k : Int) : Prop := k = 1 ∨ k = 7 ∨ k = 8 ∨ k = 9 ∨ k = 10 ∨ k = 11
instance (k : Int) : Decidable (inDo k) := by unfold inDo; infer_instance
def doH (A : Stk) (k : Int) (L : Its) : Int × Stk := if inDo k then doS A k L else (1, A)
set_option maxRecDepth 100000 in
set_option maxHeartbeats 4000000 in
theorem hDo (k : Int) (v : Value) (L : Its) (h : SB w g gs m T0 TB A l) (hA : SOk A) (hv : Il w v L) : Calls Tryz.prog 14 #[.pointer (some ⟨g, 0, none⟩), .int .i64 k, v] w fun e w' => e = .returned (.int .i64 (doH A k L).1) ∧ ∃ T0', SB w' g gs m T0' TB (doH A k L).2 l ∧ Stp T0 w w' T0' := by
  obtain ⟨c0, c1⟩ := h.cells
  have hF := sDo w gs T0 A k v L h.stk hA hv
  have hm := Lib.hid (hmade w g m c1)
  have HH := Lib.hid h
  unfold doH
  by_cases hk : inDo k
  · rw [if_pos hk]
    obtain ⟨⟨R1, B⟩, hR⟩ : ∃ R, doS A k L = R := ⟨_, rfl⟩
    rw [hR] at hF ⊢
    have HF := Lib.hid hF
    clear h hF hR hv
    rcases hk with rfl | rfl | rfl | rfl | rfl | rfl
    all_goals
      go_enter Tryz.func14, Tryz.ntmps14
      go_wp2_with (first
        | (go_at_call 39; refine hm.out.mono ?_; rintro e w' ⟨rfl, rfl⟩)
        | (go_at_call 31; refine HF.out.mono ?_; rintro e w2 ⟨rfl, T0', h1, h2⟩; have H1 := Lib.hid h1; have H2 := Lib.hid h2; clear h1 h2))
      go_ret
      exact ⟨rfl, T0', HH.out.stock H1.out H2.out, H2.out⟩
  · rw [if_neg hk]
    unfold inDo at hk
    have d1 : (k == 1) = false := by simp; omega
    have d2 : (k == 7) = false := by simp; omega
    have d3 : (k == 8) = false := by simp; omega
    have d4 : (k == 9) = false := by simp; omega
    have d5 : (k == 10) = false := by simp; omega
    have d6 : (k == 11) = false := by simp; omega
    clear h hF hv hk
    go_enter Tryz.func14, Tryz.ntmps14
    go_wp2_with (go_at_call 39; refine hm.out.mono ?_; rintro e w' ⟨rfl, rfl⟩)
    go_ret
    exact ⟨rfl, T0, HH.out, Stp.refl (Fr.refl _ _)⟩
end
end Go.Proofs.YtogphlnakdnchaaGreat

