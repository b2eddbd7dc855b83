/- backoff: for every input BackoffPops returns true and leaves its input as it was; no condition. -/
import Derived.Test.YtjkhheolklnmaaaRows
import Derived.Test.YtjkhheolklnmaaaBackI
import Derived.Test.YtjkhheolklnmaaaOpen
import Derived.StillTailTactics
namespace Go.Proofs.Ytjkhheolklnmaaa.backoffPops
open Go.ChangeShapes Go.WideShapes Go.ChangeAt Go.RowKit
/-- The timers behind the first k calls. -/
def opsX (L : List (List Int)) (k : Nat) : List KV := (L.take k).foldl (fun X r => tSet X (r.getD 1 0) (r.getD 2 0)) []
theorem opsX_succ {L : List (List Int)} {k : Nat} {x y z : Int} (h : L[k]? = some [x, y, z]) : opsX L (k + 1) = tSet (opsX L k) y z := by
  have : L.take (k + 1) = L.take k ++ [[x, y, z]] := by rw [List.take_add_one, h]; rfl
  rw [opsX, this, List.foldl_append]; rfl
theorem opsX_len (L : List (List Int)) (k : Nat) : (opsX L k).length ≤ k := by
  have : ∀ (l : List (List Int)) (X : List KV), (l.foldl (fun X r => tSet X (r.getD 1 0) (r.getD 2 0)) X).length ≤ X.length + l.length := by
    intro l
    induction l with
    | nil => intro X; simp
    | cons r l ih =>
      intro X
      refine Nat.le_trans (ih _) ?_
      have h1 : (tSet X (r.getD 1 0) (r.getD 2 0)).length ≤ X.length + 1 := by
        unfold tSet
        rw [(tIns_perm _ _).length_eq]
        have := List.length_filter_le (fun p : KV => !decide (p.1 = r.getD 1 0)) X
        simp [delS]; exact this
      simp only [List.length_cons]; omega
  have := this (L.take k) []
  simp only [List.length_nil, List.length_take] at this
  unfold opsX
  omega
theorem delS_head {p : KV} {r : List KV} (h : KeysND (p :: r)) : delS (p :: r) p.1 = r := by
  simp only [delS, List.filter_cons, decide_true, Bool.not_true, Bool.false_eq_true, if_false]
  rw [List.filter_eq_self]
  intro q hq
  have := (List.pairwise_cons.1 h).1 q hq
  simp; exact fun e => this e.symm
theorem due_drop {X : List KV} {now : Int} : ∀ {j : Nat}, j ≤ (dueL X now).length → dueL (X.drop j) now = (dueL X now).drop j
  | 0, _ => by simp
  | j + 1, h => by
    cases X with
    | nil => simp [dueL]
    | cons p r =>
      by_cases hp : p.2 ≤ now
      · have e : dueL (p :: r) now = p :: dueL r now := by simp [dueL, hp]
        rw [e] at h ⊢
        have := due_drop (X := r) (now := now) (j := j) (by simpa using h)
        simpa using this
      · have e : dueL (p :: r) now = [] := by simp [dueL, hp]
        rw [e] at h; simp at h
def RowD (w : World) (base : Nat) (a : Option Addr) (D : List KV) : Prop := ∀ (j : Nat) (p : KV), D[j]? = some p → ∃ g', a = some ⟨g', 0, none⟩ ∧ base ≤ g' ∧ w.cell? ⟨g', j, none⟩ = some (.int .i64 p.1)
theorem RowD.of {w : World} {base : Nat} {v : Value} {D : List KV} (h : w.ownsRow base 3 1 v D.length (D.map fun p => .int .i64 p.1)) : ∃ a c, v = .slice a D.length c ∧ RowD w base a D := by
  rcases Nat.eq_zero_or_pos D.length with h0 | h0
  · rw [h0] at h
    obtain ⟨a, c, rfl⟩ := own_zero h
    exact ⟨a, c, by rw [h0], fun j p hp => by have := (List.getElem?_eq_some_iff.1 hp).1; omega⟩
  · obtain ⟨g', cap, rfl, hb, hlt⟩ := h.form h0
    refine ⟨_, _, rfl, fun j p hp => ⟨g', rfl, hb, ?_⟩⟩
    have hj := (List.getElem?_eq_some_iff.1 hp).1
    have := h.cellAt (g := g') (j := j) (by simpa using hj)
    rw [this]; simp [hp]
theorem RowD.fr {S : Nat → Prop} {w w' : World} {base : Nat} {a : Option Addr} {D : List KV} (h : RowD w base a D) (hf : Fr S w w') (hS : ∀ b, base ≤ b → ¬ S b) : RowD w' base a D := fun j p hp => by
  obtain ⟨g', e, hb, hc⟩ := h j p hp
  exact ⟨g', e, hb, hf.cell hc (hS _ hb)⟩
theorem pop_at {X D : List KV} {now : Int} {j n : Nat} {p : KV} (hz : ∀ j, j ≤ n → dueL (X.drop j) now = D.drop j) (hj : j < n) (hp : D[j]? = some p) : X.drop j = p :: X.drop (j + 1) ∧ dueL (X.drop j) now = p :: D.drop (j + 1) := by
  have h1 := hz j (by omega)
  have hlt := (List.getElem?_eq_some_iff.1 hp).1
  rw [List.drop_eq_getElem_cons hlt, (List.getElem?_eq_some_iff.1 hp).2] at h1
  refine ⟨?_, h1⟩
  have h0 := (due_cons h1).1
  rw [List.getElem?_drop, Nat.add_zero] at h0
  have hx := (List.getElem?_eq_some_iff.1 h0).1
  rw [List.drop_eq_getElem_cons hx, (List.getElem?_eq_some_iff.1 h0).2]
theorem TX.nd {w : World} {g m : Nat} {X : List KV} (h : TX w g m X) : KeysND X := h.ex.elim fun _ hl => hl.2.nd.perm hl.2.perm.symm
set_option maxHeartbeats 1000000 in
theorem walk (v : Value) (L : List (List Int)) (now : Int) (w : World) (hL : SlI w v 3 L) (hnow : okI now) :
    Calls Try.prog 5 #[v, .int .i64 now] w fun e w' => e = .returned (.bool true) ∧ Below w.heap.size w w' := by
  obtain ⟨hlm0, a0, c0, rfl⟩ := hL.len
  have hlm : L.length ≤ 9223372036854775807 := hlm0
  clear hlm0
  go_enter Try.func5, Try.ntmps5
  go_wp2_with (first
    | (go_at_call 12; refine (xNew _).mono ?_; rintro e w1 ⟨rfl, hT1, hf1, hs1⟩)
    | (go_at_call 9; refine (bLives _).mono ?_; rintro e w2 ⟨rfl, hb2⟩))
  have hT2 := hT1.below hb2 (by omega) (by omega)
  have hF2 : Fr (fun b => w.heap.size ≤ b) w w2 := (hf1.mono (fun _ _ h => h.elim)).trans (Fr.below hb2)
  have HL := Lib.hid hL
  clear hf1 hs1 hb2 hT1 hL
  generalize w.heap.size + 1 = g at *
  generalize hm : w.heap.size = m at *
  go_loopw [6] (fun i wr => ∃ k : Nat, k ≤ L.length ∧ (k : Int) ≤ 200 ∧ i = .int .i64 k ∧ TX wr g m (opsX L k) ∧ Fr (fun b => m ≤ b) w wr) (fun i _ => 200 - (intOf i).toNat)
  case atStart => exact ⟨0, by omega, by omega, rfl, hT2, hF2⟩
  case round =>
    obtain ⟨k, hk, hk2, rfl, hTr, hFr⟩ := hrel
    have HT := Lib.hid hTr; have HF := Lib.hid hFr; have HS := Lib.hid (HL.out.below (by omega) (hFr.toBelow (B := w.heap.size) (fun _ h => by omega) (Nat.le_refl _)))
    clear hTr hFr
    have HM := Lib.hid hm
    clear hm
    by_cases hkl : k < L.length
    · by_cases hk3 : (k : Int) < 200
      · obtain ⟨r, hr⟩ : ∃ r, L[k]? = some r := ⟨L[k], List.getElem?_eq_getElem hkl⟩
        obtain ⟨a, rfl⟩ := HS.out.some hr
        obtain ⟨g1, g2, -, g3⟩ := HS.out.row hr
        match r, g1 with
        | [x0, x1, x2], _ =>
        have hc1 : wr.drew.cell? ⟨(a.add (k * 3)).block, (a.add (k * 3)).off + 1, none⟩ = some (.int .i64 x1) := g3 0 x1 rfl
        have hc2 : wr.drew.cell? ⟨(a.add (k * 3)).block, (a.add (k * 3)).off + 2, none⟩ = some (.int .i64 x2) := g3 1 x2 rfl
        have ok1 := g2 x1 (by simp)
        clear g2 g3
        have HX := Lib.hid (opsX_succ hr)
        have H1 := Lib.hid ok1
        clear hr ok1
        go_wp2_with fail
        refine wp_region_still_tail 11 (by kernel_rfl) (by kernel_rfl) ?_
        simp only [List.take_succ_cons, List.take_zero, List.drop_succ_cons, List.drop_zero]
        change wpStill _ _ wr.drew (fun a' => wpList _ _ _ _ a' wr.drew) _ _
        generalize hW : wr.drew = W at *
        have HW := Lib.hid hW
        clear hW
        repeat still_step
        refine wpStill_nil ?_
        go_wp2_with fail
        have hTW : TX W g m (opsX L k) := HW.out ▸ HT.out.fr (S := fun _ => False) (Fr.refl _ _).drew (fun h => h) (fun h => h)
        have hFW : Fr (fun b => m ≤ b) w W := HW.out ▸ HF.out.drew
        have hlen := opsX_len L k
        refine (xSet W g m _ x1 x2 hTW H1.out (by omega)).mono ?_
        rintro e w3 ⟨rfl, hT3, hf3⟩
        rw [← HX.out] at hT3
        have hF3 := hFW.trans' hf3 (fun b _ e => by omega)
        clear hc1 hc2 hTW hFW hlen hf3
        go_wp2_with fail
        go_roundw
        case rel => exact ⟨k + 1, by omega, by omega, by go_num, hT3, hF3⟩
        case measure => simp [intOf]; omega
      · go_wp2_with fail
        have hlen : ((opsX L k).length : Int) ≤ 200 := by have := opsX_len L k; omega
        generalize opsX L k = X at *
        refine (xDue wr g m X now HT.out (by omega)).mono ?_
        rintro e w3 ⟨vd, rfl, hown, hf3⟩
        have hT3 := HT.out.fr hf3 (fun h => h) (fun h => h)
        have hF3 := HF.out.trans' hf3 (fun b _ e => e.elim)
        obtain ⟨ad, cd, rfl, hrow⟩ := RowD.of hown
        have hdl : (dueL X now).length ≤ X.length := (List.takeWhile_sublist _).length_le
        have hdz : ∀ j, j ≤ (dueL X now).length → dueL (X.drop j) now = (dueL X now).drop j := fun j h => due_drop h
        have hmb : m < wr.heap.size := HT.out.lt.2
        have hnd := TX.nd hT3
        obtain ⟨XL, hXL⟩ : ∃ n : Nat, X.length = n := ⟨_, rfl⟩
        generalize hD : dueL X now = D at *
        obtain ⟨n, hn⟩ : ∃ n : Nat, D.length = n := ⟨_, rfl⟩
        rw [hn] at hdl hdz ⊢
        rw [hXL] at hlen hdl
        have HT3 := Lib.hid hT3; have HF3 := Lib.hid hF3; have HR := Lib.hid hrow; have HZ := Lib.hid hdz; have HN := Lib.hid hnd; have hn' := Lib.hid hn; have hXL' := Lib.hid hXL; have HD := Lib.hid hD
        have hxl := fun W (h : TX W g m X) => xLen W g m X h
        rw [hXL] at hxl
        have HXL := Lib.hid hxl
        clear HT HF hf3 hrow hdz hnd hn hXL hT3 hF3 hown hD hxl hk hk2
        go_wp2_with (go_at_call 15; refine (HXL.out _ HT3.out).mono ?_; rintro e w4 ⟨rfl, rfl⟩)
        clear HXL
        obtain ⟨wo, rfl⟩ : ∃ wo : World, wo = wr := ⟨_, rfl⟩
        go_loopw [9] (fun i wr' => ∃ j : Nat, (j : Int) ≤ n ∧ i = .int .i64 j ∧ TX wr' g m (X.drop j) ∧ Fr (fun b => m ≤ b) w wr' ∧ RowD wr' wo.heap.size ad D) (fun i _ => n - (intOf i).toNat)
        case atStart => exact ⟨0, by omega, rfl, HT3.out, HF3.out, HR.out⟩
        case round =>
          obtain ⟨j, hj, rfl, hTr, hFr, hRr⟩ := hrel
          have HT := Lib.hid hTr; have HF := Lib.hid hFr; have HS := Lib.hid hRr
          clear hTr hFr hRr
          by_cases hjn : (j : Int) < n
          · obtain ⟨p, hp⟩ : ∃ p, D[j]? = some p := ⟨D[j]'(by have := hn'.out; omega), List.getElem?_eq_getElem _⟩
            obtain ⟨q1, q2⟩ := pop_at HZ.out (by omega) hp
            obtain ⟨g', rfl, hgb, hcp⟩ := HS.out j p hp
            have hnd2 : KeysND (p :: X.drop (j + 1)) := q1 ▸ HN.out.sublist (List.drop_sublist _ _)
            have HC := Lib.hid (xPop_some wr g m _ now p _ HT.out (by have := hXL'.out; simp; omega) q2)
            have HQ := Lib.hid q1; have HD2 := Lib.hid hnd2
            clear q1 q2 hp hnd2
            go_wp2_with fail
            refine HC.out.mono ?_
            rintro e w5 ⟨rfl, hT5, hf5⟩
            rw [HQ.out, delS_head HD2.out] at hT5
            have hc5 := hf5.cell hcp (by show ¬ g' = m; omega)
            have HT5 := Lib.hid hT5
            have HF5 := Lib.hid (HF.out.trans' hf5 (fun b _ e => by omega))
            have HR5 := Lib.hid (HS.out.fr hf5 (fun b hb e => by omega))
            clear hf5 hT5 hcp HC HQ HD2 HT HF
            go_wp2_with fail
            go_roundw
            case rel => exact ⟨j + 1, by omega, by go_num, HT5.out, HF5.out, HR5.out⟩
            case measure => simp [intOf]; omega
          · have hjj : j = n := by omega
            subst hjj
            have q2 : dueL (X.drop j) now = [] := by rw [HZ.out j (Nat.le_refl _), ← hn'.out, List.drop_length]
            have q3 : (((X.drop j).length : Nat) : Int) = XL - j := by have := hXL'.out; rw [List.length_drop]; omega
            have HC := Lib.hid (xPop_none wr g m _ now HT.out (by omega) q2)
            have hdu := fun W (h : TX W g m (X.drop j)) => xDue W g m _ now h (by omega)
            rw [q2] at hdu
            have hle := fun W (h : TX W g m (X.drop j)) => xLen W g m _ h
            rw [q3] at hle
            have HDU := Lib.hid hdu; have HLE := Lib.hid hle
            clear q2 q3 hdu hle
            go_wp2_with fail
            refine HC.out.mono ?_
            rintro e w5 ⟨rfl, hf5⟩
            have HT5 := Lib.hid (HT.out.fr hf5 (fun h => h) (fun h => h))
            have HF5 := Lib.hid (HF.out.trans' hf5 (fun b _ e => e.elim))
            clear hf5 HT HF HC
            go_wp2_with fail
            refine (HDU.out _ HT5.out).mono ?_
            rintro e w6 ⟨vz, rfl, hown, hf6⟩
            obtain ⟨az, cz, rfl⟩ := own_zero hown
            have HT6 := Lib.hid (HT5.out.fr hf6 (fun h => h) (fun h => h))
            have HF6 := Lib.hid (HF5.out.trans' hf6 (fun b _ e => e.elim))
            clear hf6 hown HT5 HF5 HDU
            go_wp2_with (go_at_call 15; refine (HLE.out _ HT6.out).mono ?_; rintro e w7 ⟨rfl, rfl⟩)
            go_ret
            exact ⟨rfl, HF6.out.toBelow (fun b h => by have := HM.out; omega) (Nat.le_refl _)⟩
    · go_wp2_with fail
      have hlen : ((opsX L k).length : Int) ≤ 200 := by have := opsX_len L k; omega
      generalize opsX L k = X at *
      refine (xDue wr g m X now HT.out (by omega)).mono ?_
      rintro e w3 ⟨vd, rfl, hown, hf3⟩
      have hT3 := HT.out.fr hf3 (fun h => h) (fun h => h)
      have hF3 := HF.out.trans' hf3 (fun b _ e => e.elim)
      obtain ⟨ad, cd, rfl, hrow⟩ := RowD.of hown
      have hdl : (dueL X now).length ≤ X.length := (List.takeWhile_sublist _).length_le
      have hdz : ∀ j, j ≤ (dueL X now).length → dueL (X.drop j) now = (dueL X now).drop j := fun j h => due_drop h
      have hmb : m < wr.heap.size := HT.out.lt.2
      have hnd := TX.nd hT3
      obtain ⟨XL, hXL⟩ : ∃ n : Nat, X.length = n := ⟨_, rfl⟩
      generalize hD : dueL X now = D at *
      obtain ⟨n, hn⟩ : ∃ n : Nat, D.length = n := ⟨_, rfl⟩
      rw [hn] at hdl hdz ⊢
      rw [hXL] at hlen hdl
      have HT3 := Lib.hid hT3; have HF3 := Lib.hid hF3; have HR := Lib.hid hrow; have HZ := Lib.hid hdz; have HN := Lib.hid hnd; have hn' := Lib.hid hn; have hXL' := Lib.hid hXL; have HD := Lib.hid hD
      have hxl := fun W (h : TX W g m X) => xLen W g m X h
      rw [hXL] at hxl
      have HXL := Lib.hid hxl
      clear HT HF hf3 hrow hdz hnd hn hXL hT3 hF3 hown hD hxl hk hk2
      go_wp2_with (go_at_call 15; refine (HXL.out _ HT3.out).mono ?_; rintro e w4 ⟨rfl, rfl⟩)
      clear HXL
      obtain ⟨wo, rfl⟩ : ∃ wo : World, wo = wr := ⟨_, rfl⟩
      go_loopw [9] (fun i wr' => ∃ j : Nat, (j : Int) ≤ n ∧ i = .int .i64 j ∧ TX wr' g m (X.drop j) ∧ Fr (fun b => m ≤ b) w wr' ∧ RowD wr' wo.heap.size ad D) (fun i _ => n - (intOf i).toNat)
      case atStart => exact ⟨0, by omega, rfl, HT3.out, HF3.out, HR.out⟩
      case round =>
        obtain ⟨j, hj, rfl, hTr, hFr, hRr⟩ := hrel
        have HT := Lib.hid hTr; have HF := Lib.hid hFr; have HS := Lib.hid hRr
        clear hTr hFr hRr
        by_cases hjn : (j : Int) < n
        · obtain ⟨p, hp⟩ : ∃ p, D[j]? = some p := ⟨D[j]'(by have := hn'.out; omega), List.getElem?_eq_getElem _⟩
          obtain ⟨q1, q2⟩ := pop_at HZ.out (by omega) hp
          obtain ⟨g', rfl, hgb, hcp⟩ := HS.out j p hp
          have hnd2 : KeysND (p :: X.drop (j + 1)) := q1 ▸ HN.out.sublist (List.drop_sublist _ _)
          have HC := Lib.hid (xPop_some wr g m _ now p _ HT.out (by have := hXL'.out; simp; omega) q2)
          have HQ := Lib.hid q1; have HD2 := Lib.hid hnd2
          clear q1 q2 hp hnd2
          go_wp2_with fail
          refine HC.out.mono ?_
          rintro e w5 ⟨rfl, hT5, hf5⟩
          rw [HQ.out, delS_head HD2.out] at hT5
          have hc5 := hf5.cell hcp (by show ¬ g' = m; omega)
          have HT5 := Lib.hid hT5
          have HF5 := Lib.hid (HF.out.trans' hf5 (fun b _ e => by omega))
          have HR5 := Lib.hid (HS.out.fr hf5 (fun b hb e => by omega))
          clear hf5 hT5 hcp HC HQ HD2 HT HF
          go_wp2_with fail
          go_roundw
          case rel => exact ⟨j + 1, by omega, by go_num, HT5.out, HF5.out, HR5.out⟩
          case measure => simp [intOf]; omega
        · have hjj : j = n := by omega
          subst hjj
          have q2 : dueL (X.drop j) now = [] := by rw [HZ.out j (Nat.le_refl _), ← hn'.out, List.drop_length]
          have q3 : (((X.drop j).length : Nat) : Int) = XL - j := by have := hXL'.out; rw [List.length_drop]; omega
          have HC := Lib.hid (xPop_none wr g m _ now HT.out (by omega) q2)
          have hdu := fun W (h : TX W g m (X.drop j)) => xDue W g m _ now h (by omega)
          rw [q2] at hdu
          have hle := fun W (h : TX W g m (X.drop j)) => xLen W g m _ h
          rw [q3] at hle
          have HDU := Lib.hid hdu; have HLE := Lib.hid hle
          clear q2 q3 hdu hle
          go_wp2_with fail
          refine HC.out.mono ?_
          rintro e w5 ⟨rfl, hf5⟩
          have HT5 := Lib.hid (HT.out.fr hf5 (fun h => h) (fun h => h))
          have HF5 := Lib.hid (HF.out.trans' hf5 (fun b _ e => e.elim))
          clear hf5 HT HF HC
          go_wp2_with fail
          refine (HDU.out _ HT5.out).mono ?_
          rintro e w6 ⟨vz, rfl, hown, hf6⟩
          obtain ⟨az, cz, rfl⟩ := own_zero hown
          have HT6 := Lib.hid (HT5.out.fr hf6 (fun h => h) (fun h => h))
          have HF6 := Lib.hid (HF5.out.trans' hf6 (fun b _ e => e.elim))
          clear hf6 hown HT5 HF5 HDU
          go_wp2_with (go_at_call 15; refine (HLE.out _ HT6.out).mono ?_; rintro e w7 ⟨rfl, rfl⟩)
          go_ret
          exact ⟨rfl, HF6.out.toBelow (fun b h => by have := HM.out; omega) (Nat.le_refl _)⟩
set_option maxRecDepth 100000 in
theorem lifted (os : Os) (started : os.Started) (H : Type) (enc : TypeId × Value → H) :
    ReturnsInHanded {} Try.checked os 5 .any (Rows.backoffPopsSpec.pre6 enc Try.prog Try.f5 Rows.backoffPopsRow.domain false) (Rows.backoffPopsSpec.post enc Try.prog Try.f5 false true false false) := by
  refine returnsInHanded_of_change (C := Try.checked) own started (by kernel_rfl) Try.func5
    (ChangeSpec.witness6 (enc := enc) (C := Try.checked) false ⟨#[], #[.slice none 0 0, .int .i64 0], []⟩ 8 (by kernel_rfl) (by kernel_rfl) (by kernel_rfl) (by kernel_rfl)) ?_
  intro W base args ds gs before hval0 hW hcnd _
  have hval : ∀ (j : Nat) t v, Try.f5.params[j]? = some t → args[j]? = some v → Value.okWide Try.prog W .any base t v := hval0
  have hW' := hW
  obtain ⟨p, q, hA0, hV, rfl, hfz, hnd⟩ := hW
  have hA : DataW.TrodAll enc Try.prog W 0 (fun _ => true) true Try.f5.params.toList args.toList ds p := hA0
  rw [Try.params5] at hA hval
  obtain ⟨v0, vs0, d0, ds0, p0, q0, hargs, rfl, rfl, h0, r0⟩ := trodAll_cons hA
  obtain ⟨v1, vs1, d1, ds1, p1, q1, rfl, rfl, rfl, h1, r1⟩ := trodAll_cons r0
  obtain ⟨rfl, rfl, rfl⟩ := trodAll_nil r1
  obtain rfl : args = #[v0, v1] := by cases args; simp_all
  obtain ⟨rfl, rfl⟩ := trodVars_none hV
  obtain ⟨L0, hL0⟩ := open_slI Try.underlying27 Try.underlying32 Try.underlying3 (by kernel_rfl) (by kernel_rfl) (by kernel_rfl) (hval 0 27 v0 rfl rfl) h0
  obtain ⟨a1, rfl, rfl, rfl, w1⟩ := open_int Try.underlying3 (hval 1 3 v1 rfl rfl) h1
  clear hA0 hval0
  simp only [List.append_nil] at hW'
  refine (walk v0 L0 a1 W hL0 (wf_okI.1 w1)).mono fun e W' ⟨he, hg⟩ => ?_
  subst he
  exact ⟨_, rfl, law_post laidOut (by kernel_rfl) rfl Try.underlying4 hW' rfl rfl hg⟩
theorem over : Rows.backoffPopsRow.holds Try.pinned (OpenSpec.ofChange Rows.backoffPopsSpec) :=
  OpenClaim.holds_of_wide 5 Try.f5 rfl rfl rfl rfl rfl rfl rfl ⟨rfl, rfl, rfl, rfl, rfl⟩ rfl rfl rfl rfl rfl (by kernel_rfl) Try.func5 (by kernel_rfl)
    (of_decide_eq_true (by kernel_rfl)) (by unfold Func.isWrapper; first | (rw [if_pos (by decide +kernel)]; kernel_rfl) | (rw [if_neg (by decide +kernel)]; exact ⟨rfl, rfl⟩))
    (fun os started H enc _ => lifted os started H enc)
theorem proved : Rows.BackoffPopsSaid :=
  over
#print axioms proved
end Go.Proofs.Ytjkhheolklnmaaa.backoffPops
