/- slices.SortStableFunc on []api.Place: symMerge, whatever the lengths; the blocks; the whole. -/
import Derived.Test.YtlniekobijcanaaGreatBinsRoutesM22
namespace Go.Proofs.YtlniekobijcanaaGreat
open Go.RowKit
theorem symAllP (b n cap g : Nat) (cb : Value) (cf : PV → PV → Int) (T : EP → EP → Bool) (eg : ∀ args w, (callFunc g args).run Tryz.prog w = .ok (.enter g args) w) (hm : n ≤ 1000000000000) (tr : ∀ a b c, T a b = true → T b c = true → T a c = true) : ∀ d, SymOkP g cb cf T b n cap d
  | 0 => fun w P A B S ia im ib hd hA hB => by omega
  | d + 1 => fun w P A B S ia im ib hd hA hB h hn ha hpm hb sA sB hR hc => by
    by_cases h1 : A.length = 1
    · obtain ⟨x, rfl⟩ := List.length_eq_one_iff.1 h1
      refine (symI1P w b n cap g cb cf T P B S x eg (by simpa using h) (by simpa using hn) hm ha hpm (by rw [hb]; simp) tr sB (fun p hp => hR p hp x (by simp)) hc).mono ?_
      rintro e w' ⟨he, Z, z1, z2, z3, z4⟩
      exact ⟨he, Z, z1, z2, by simpa using z3, z4⟩
    · by_cases h2 : B.length = 1
      · obtain ⟨y, rfl⟩ := List.length_eq_one_iff.1 h2
        refine (symI2P w b n cap g cb cf T P A S y eg (by simpa using h) (by simpa using hn) hm ha hpm (by rw [hb]; simp) (by omega) tr sA (fun q hq => hR y (by simp) q hq) hc).mono ?_
        rintro e w' ⟨he, Z, z1, z2, z3, z4⟩
        exact ⟨he, Z, z1, z2, z3, z4⟩
      · exact symI3P b n cap g cb cf T d eg hm tr (symAllP b n cap g cb cf T eg hm tr d) w P A B S ia im ib hd (by omega) (by omega) h hn ha hpm hb sA sB hR hc
/-- A part of a list. -/
def segP (xs : List EP) (a b : Nat) : List EP := (xs.take b).drop a
/-- That part rises, and holds what it held in X. -/
def BlkP (T : EP → EP → Bool) (X ys : List EP) (a b : Nat) : Prop := Srt T (segP ys a b) ∧ (segP ys a b).Perm (segP X a b)
theorem seg_lenP {xs : List EP} {a b : Nat} (hb : b ≤ xs.length) : (segP xs a b).length = b - a := by unfold segP; simp; omega
theorem seg_splitP (xs : List EP) {a b : Nat} (hab : a ≤ b) : xs = xs.take a ++ (segP xs a b ++ xs.drop b) := by
  unfold segP
  have h1 : xs.take a = (xs.take b).take a := by rw [List.take_take, Nat.min_eq_left hab]
  rw [h1, ← List.append_assoc, List.take_append_drop, List.take_append_drop]
theorem seg_getP (xs : List EP) (c d i : Nat) : (segP xs c d)[i]? = if c + i < d then xs[c + i]? else none := by
  unfold segP
  rw [List.getElem?_drop, List.getElem?_take]
theorem put_getP {xs Z : List EP} {a b : Nat} (hab : a ≤ b) (hb : b ≤ xs.length) (hZ : Z.length = b - a) (j : Nat) : (xs.take a ++ (Z ++ xs.drop b))[j]? = if j < a then xs[j]? else if j < b then Z[j - a]? else xs[j]? := by
  have hta : (xs.take a).length = a := by simp; omega
  by_cases h1 : j < a
  · rw [if_pos h1, List.getElem?_append_left (by omega), List.getElem?_take, if_pos h1]
  · rw [if_neg h1, List.getElem?_append_right (by omega), hta]
    by_cases h2 : j < b
    · rw [if_pos h2, List.getElem?_append_left (by omega)]
    · rw [if_neg h2, List.getElem?_append_right (by omega), List.getElem?_drop]
      congr 1; omega
/-- A part is changed for another of its length: the parts elsewhere are as they were. -/
theorem seg_putP {xs Z : List EP} {a b : Nat} (hab : a ≤ b) (hb : b ≤ xs.length) (hZ : Z.length = b - a) :
    (xs.take a ++ (Z ++ xs.drop b)).length = xs.length ∧ segP (xs.take a ++ (Z ++ xs.drop b)) a b = Z ∧ (∀ c d, d ≤ a → segP (xs.take a ++ (Z ++ xs.drop b)) c d = segP xs c d) ∧ (∀ c d, b ≤ c → segP (xs.take a ++ (Z ++ xs.drop b)) c d = segP xs c d) := by
  refine ⟨by simp; omega, ?_, fun c d hd => ?_, fun c d hc => ?_⟩
  · apply List.ext_getElem?
    intro i
    rw [seg_getP, put_getP hab hb hZ]
    by_cases h : a + i < b
    · rw [if_pos h, if_neg (by omega), if_pos h]; congr 1; omega
    · rw [if_neg h]; exact (List.getElem?_eq_none (by omega)).symm
  · apply List.ext_getElem?
    intro i
    rw [seg_getP, seg_getP, put_getP hab hb hZ]
    by_cases h : c + i < d
    · rw [if_pos h, if_pos h, if_pos (by omega)]
    · rw [if_neg h, if_neg h]
  · apply List.ext_getElem?
    intro i
    rw [seg_getP, seg_getP, put_getP hab hb hZ]
    by_cases h : c + i < d
    · rw [if_pos h, if_pos h, if_neg (by omega), if_neg (by omega)]
    · rw [if_neg h, if_neg h]
theorem seg_appP (xs : List EP) {a m b : Nat} (h1 : a ≤ m) (h2 : m ≤ b) : segP xs a b = segP xs a m ++ segP xs m b := by
  apply List.ext_getElem?
  intro i
  rw [seg_getP]
  by_cases hm : m ≤ xs.length
  · have hl : (segP xs a m).length = m - a := seg_lenP hm
    by_cases h : i < m - a
    · rw [List.getElem?_append_left (by omega), seg_getP, if_pos (by omega), if_pos (by omega)]
    · rw [List.getElem?_append_right (by omega), seg_getP, hl]
      by_cases h3 : a + i < b
      · rw [if_pos h3, if_pos (by omega)]; congr 1; omega
      · rw [if_neg h3, if_neg (by omega)]
  · have e1 : segP xs m b = [] := by unfold segP; rw [List.drop_of_length_le]; simp; omega
    rw [e1, List.append_nil, seg_getP]
    by_cases h3 : a + i < m
    · rw [if_pos (by omega), if_pos h3]
    · rw [if_neg h3]
      by_cases h4 : a + i < b
      · rw [if_pos h4]; exact List.getElem?_eq_none (by omega)
      · rw [if_neg h4]
theorem seg_subP {xs : List EP} {a b : Nat} {x : EP} (h : x ∈ segP xs a b) : x ∈ xs := by
  unfold segP at h
  exact List.mem_of_mem_take (List.mem_of_mem_drop h)
/-- What stands in a later part stands right of what stands in an earlier one. -/
theorem seg_pairP {R : EP → EP → Prop} {X : List EP} (h : X.Pairwise R) {a m b : Nat} (h1 : a ≤ m) (h2 : m ≤ b) : ∀ q ∈ segP X a m, ∀ p ∈ segP X m b, R q p := by
  intro q hq p hp
  have hs : (segP X a b).Pairwise R := h.sublist ((List.drop_sublist _ _).trans (List.take_sublist _ _))
  rw [seg_appP X h1 h2] at hs
  exact (List.pairwise_append.1 hs).2.2 q hq p hp
theorem seg_pwP {R : EP → EP → Prop} {X : List EP} (h : X.Pairwise R) (a b : Nat) : (segP X a b).Pairwise R := h.sublist ((List.drop_sublist _ _).trans (List.take_sublist _ _))
/-- From lo to hi, in steps of s, each block rises and holds what it held. -/
def OkbP (T : EP → EP → Bool) (X ys : List EP) (s lo hi : Nat) : Prop := ∀ q, lo + q * s < hi → BlkP T X ys (lo + q * s) (min (lo + (q + 1) * s) hi)
theorem okb_headP {T : EP → EP → Bool} {X ys : List EP} {s lo hi : Nat} (h : OkbP T X ys s lo hi) (hl : lo < hi) : BlkP T X ys lo (min (lo + s) hi) := by
  have := h 0 (by omega)
  simpa using this
theorem okb_tailP {T : EP → EP → Bool} {X ys : List EP} {s lo hi : Nat} (h : OkbP T X ys s lo hi) : OkbP T X ys s (lo + s) hi := fun q hq => by
  have e1 : lo + s + q * s = lo + (q + 1) * s := by rw [Nat.add_mul]; omega
  have e2 : lo + s + (q + 1) * s = lo + (q + 1 + 1) * s := by rw [Nat.add_mul (q + 1)]; omega
  rw [e1] at hq ⊢
  rw [e2]
  exact h (q + 1) hq
theorem okb_nilP {T : EP → EP → Bool} {X ys : List EP} {s lo hi : Nat} (h : hi ≤ lo) : OkbP T X ys s lo hi := fun q hq => by omega
theorem okb_snocP {T : EP → EP → Bool} {X ys : List EP} {t a b k : Nat} (h : OkbP T X ys t 0 a) (ha : a = k * t) (hab : a < b) (hb : b ≤ a + t) (hB : BlkP T X ys a b) : OkbP T X ys t 0 b := fun q hq => by
  rw [Nat.zero_add] at hq ⊢
  rw [Nat.zero_add]
  rcases Nat.lt_trichotomy q k with hl | he | hg
  · have h1 : (q + 1) * t ≤ k * t := Nat.mul_le_mul_right t hl
    have h2 := h q (by rw [Nat.zero_add]; rw [Nat.add_mul] at h1; omega)
    rw [Nat.zero_add, Nat.zero_add] at h2
    rw [Nat.min_eq_left (by omega)] at h2 ⊢
    exact h2
  · subst he
    rw [Nat.min_eq_right (by rw [Nat.add_mul]; omega), ← ha]
    exact hB
  · have h1 : (k + 1) * t ≤ q * t := Nat.mul_le_mul_right t hg
    rw [Nat.add_mul] at h1
    omega
theorem okb_lowP {T : EP → EP → Bool} {X ys Z : List EP} {t a b : Nat} (hab : a ≤ b) (hb : b ≤ ys.length) (hZ : Z.length = b - a) (h : OkbP T X ys t 0 a) : OkbP T X (ys.take a ++ (Z ++ ys.drop b)) t 0 a := fun q hq => by
  have := h q hq
  unfold BlkP at this ⊢
  rw [(seg_putP hab hb hZ).2.2.1 _ _ (Nat.min_le_right _ _)]
  exact this
theorem okb_highP {T : EP → EP → Bool} {X ys Z : List EP} {s a b n : Nat} (hab : a ≤ b) (hb : b ≤ ys.length) (hZ : Z.length = b - a) (h : OkbP T X ys s b n) : OkbP T X (ys.take a ++ (Z ++ ys.drop b)) s b n := fun q hq => by
  have := h q hq
  unfold BlkP at this ⊢
  rw [(seg_putP hab hb hZ).2.2.2 _ _ (by omega)]
  exact this
theorem blk_putP {T : EP → EP → Bool} {X ys Z : List EP} {a b : Nat} (hab : a ≤ b) (hb : b ≤ ys.length) (hZ : Z.length = b - a) (hs : Srt T Z) (hp : Z.Perm (segP X a b)) : BlkP T X (ys.take a ++ (Z ++ ys.drop b)) a b := by
  unfold BlkP
  rw [(seg_putP hab hb hZ).2.1]
  exact ⟨hs, hp⟩
/-- What is not sorted yet is as it was. -/
def RestP (X ys : List EP) (a : Nat) : Prop := ∀ c d, a ≤ c → segP ys c d = segP X c d
set_option maxRecDepth 100000 in
set_option maxHeartbeats 16000000 in
theorem stabIP (w : World) (bk n cap g : Nat) (cb : Value) (cf : PV → PV → Int) (T : EP → EP → Bool) (X : List EP) (eg : ∀ args w, (callFunc g args).run Tryz.prog w = .ok (.enter g args) w) (h : RwP w bk X) (hn : X.length = n) (hm : n ≤ 1000000000000)
    (tr : ∀ a b c, T a b = true → T b c = true → T a c = true) (hR : X.Pairwise (fun q p => RgtP cf T p q)) (hc : CmpIP g cb cf bk w) :
    Calls Tryz.prog 90 #[.slice (some ⟨bk, 0, none⟩) n cap, .int .i64 n, .func (.func g) #[cb] #[]] w fun e w' => e = .returned (.tuple #[]) ∧ ∃ Z, RwP w' bk Z ∧ Srt T Z ∧ Z.Perm X ∧ Fr (fun c => c = bk) w w' := by
  have H0 := Lib.hid h; have HN := Lib.hid hn; have HM := Lib.hid hm; have HTR := Lib.hid tr; have HRR := Lib.hid hR; have HC := Lib.hid hc
  have SYM := Lib.hid (symAllP bk n cap g cb cf T eg hm tr)
  have INS := Lib.hid (fun w P A S ia ib h hn ha hb hR hc => @insIP w bk n cap g cb cf T P A S ia ib eg h hn hm ha hb tr hR hc)
  have i1 : (n : Int) ≤ 1000000000000 := by omega
  clear h hn hm tr hR hc
  go_enter Tryz.func90, Tryz.ntmps90
  go_wp2_with fail
  go_loopw [7, 8] (fun va vb wr => ∃ (a k : Nat) (ys : List EP), va = .int .i64 a ∧ vb = .int .i64 ((a : Int) + 20) ∧ a = k * 20 ∧ a ≤ n ∧ ys.length = n ∧ RwP wr bk ys ∧ OkbP T X ys 20 0 a ∧ RestP X ys a ∧ Fr (fun c => c = bk) w wr) (fun va _ _ => ((n : Int) - intOf va).toNat)
  case atStart => exact ⟨0, 0, X, rfl, by simp, rfl, Nat.zero_le _, HN.out, H0.out, okb_nilP (Nat.le_refl _), fun _ _ _ => rfl, Fr.refl _ _⟩
  case round =>
    obtain ⟨a, k, ys, rfl, rfl, hk, han, hyl, hr, hok, hrest, hf⟩ := hrel
    have HK := Lib.hid hk; have HYL := Lib.hid hyl; have HR := Lib.hid hr; have HOK := Lib.hid hok; have HRS := Lib.hid hrest; have HF := Lib.hid hf
    clear hk hyl hr hok hrest hf
    by_cases hlt : a + 20 ≤ n
    · have hltI : (a : Int) + 20 ≤ n := by omega
      have hrow : Hid (RwP wr bk (ys.take a ++ (segP ys a (a + 20) ++ ys.drop (a + 20)))) := Lib.hid (by have := HR.out; rw [seg_splitP ys (show a ≤ a + 20 by omega)] at this; exact this)
      go_wp2_with fail
      refine (INS.out wr (ys.take a) (segP ys a (a + 20)) (ys.drop (a + 20)) _ _ hrow.out (by rw [← seg_splitP ys (show a ≤ a + 20 by omega), HYL.out]) (by have := HYL.out; simp; omega) (by rw [seg_lenP (by have := HYL.out; omega)]; have := HYL.out; simp; omega) (by rw [HRS.out a (a + 20) (Nat.le_refl _)]; exact seg_pwP HRR.out _ _) (HC.out.fr HF.out)).mono ?_
      rintro e w3 ⟨rfl, Z, hz1, hz2, hz3, hz4⟩
      have hzl : Z.length = a + 20 - a := by rw [hz3.length_eq, seg_lenP (by have := HYL.out; omega)]
      rw [HRS.out a (a + 20) (Nat.le_refl _)] at hz3
      have HZ1 := Lib.hid hz1; have HZ2 := Lib.hid hz2; have HZ3 := Lib.hid hz3; have HZL := Lib.hid hzl; have HF3 := Lib.hid (HF.out.trans hz4)
      clear hz1 hz2 hz3 hz4 hzl
      go_wp2_with fail
      go_roundw
      case rel =>
        have hp := seg_putP (xs := ys) (Z := Z) (a := a) (b := a + 20) (by omega) (by have := HYL.out; omega) HZL.out
        refine ⟨a + 20, k + 1, ys.take a ++ (Z ++ ys.drop (a + 20)), by first | rfl | (congr 1; done) | (congr 1; omega), by first | rfl | (congr 1; done) | (congr 1; omega), by have := HK.out; omega, hlt, by rw [hp.1]; exact HYL.out, HZ1.out, ?_, fun c d hcd => ?_, HF3.out⟩
        · exact okb_snocP (okb_lowP (by omega) (by have := HYL.out; omega) HZL.out HOK.out) HK.out (by omega) (Nat.le_refl _) (blk_putP (by omega) (by have := HYL.out; omega) HZL.out HZ2.out HZ3.out)
        · rw [hp.2.2.2 c d hcd]; exact HRS.out c d (by omega)
      case measure => simp [intOf]; omega
    · have hltI : ¬ (a : Int) + 20 ≤ n := by omega
      have hrow : Hid (RwP wr bk (ys.take a ++ (segP ys a n ++ ys.drop n))) := Lib.hid (by have := HR.out; rw [seg_splitP ys han] at this; exact this)
      go_wp2_with fail
      refine (INS.out wr (ys.take a) (segP ys a n) (ys.drop n) _ _ hrow.out (by rw [← seg_splitP ys han, HYL.out]) (by have := HYL.out; simp; omega) (by rw [seg_lenP (by have := HYL.out; omega)]; have := HYL.out; simp; omega) (by rw [HRS.out a n (Nat.le_refl _)]; exact seg_pwP HRR.out _ _) (HC.out.fr HF.out)).mono ?_
      rintro e w3 ⟨rfl, Z, hz1, hz2, hz3, hz4⟩
      have hzl : Z.length = n - a := by rw [hz3.length_eq, seg_lenP (by have := HYL.out; omega)]
      rw [HRS.out a n (Nat.le_refl _)] at hz3
      have hp := seg_putP (xs := ys) (Z := Z) (a := a) (b := n) han (by have := HYL.out; omega) hzl
      have hok2 : OkbP T X (ys.take a ++ (Z ++ ys.drop n)) 20 0 n := by
        have hlow := okb_lowP han (by have := HYL.out; omega) hzl HOK.out
        by_cases e : a = n
        · rw [e] at hlow ⊢; exact hlow
        · exact okb_snocP hlow HK.out (by omega) (by omega) (blk_putP han (by have := HYL.out; omega) hzl hz2 hz3)
      obtain ⟨y2, hy2⟩ : ∃ y2, ys.take a ++ (Z ++ ys.drop n) = y2 := ⟨_, rfl⟩
      have hl2 := hp.1
      rw [hy2] at hz1 hok2 hl2
      have HZ1 := Lib.hid hz1; have HOK2 := Lib.hid hok2; have HL2 := Lib.hid (hl2.trans HYL.out); have HF3 := Lib.hid (HF.out.trans hz4)
      clear hz1 hz2 hz3 hz4 hzl hp hok2 hy2 hl2 hltI
      go_wp2_with fail
      go_loopw [6] (fun vs wr => ∃ (s : Nat) (y : List EP), vs = .int .i64 s ∧ 0 < s ∧ y.length = n ∧ RwP wr bk y ∧ OkbP T X y s 0 n ∧ Fr (fun c => c = bk) w wr) (fun vs _ => ((n : Int) - intOf vs).toNat)
      case atStart => exact ⟨20, y2, rfl, by omega, HL2.out, HZ1.out, HOK2.out, HF3.out⟩
      case round =>
        obtain ⟨s, y, rfl, hs0, hyl, hr, hok, hf⟩ := hrel
        have HYL := Lib.hid hyl; have HR := Lib.hid hr; have HOK := Lib.hid hok; have HF := Lib.hid hf
        clear hyl hr hok hf
        by_cases hsn : s < n
        · have hsI : (s : Int) < n := by omega
          have hs0I : (0 : Int) < s := by omega
          obtain ⟨wo, rfl⟩ : ∃ wo : World, wo = wr := ⟨_, rfl⟩
          go_wp2_with fail
          go_loopw [7, 8] (fun va vb wr => ∃ (a k : Nat) (ys : List EP), va = .int .i64 a ∧ vb = .int .i64 ((a : Int) + 2 * s) ∧ a = k * (2 * s) ∧ a ≤ n ∧ ys.length = n ∧ RwP wr bk ys ∧ OkbP T X ys (2 * s) 0 a ∧ OkbP T X ys s a n ∧ Fr (fun c => c = bk) w wr) (fun va _ _ => ((n : Int) - intOf va).toNat)
          case atStart => exact ⟨0, 0, y, rfl, by simp, by simp, Nat.zero_le _, HYL.out, HR.out, okb_nilP (Nat.le_refl _), HOK.out, HF.out⟩
          case round =>
            obtain ⟨a, k, ys, rfl, rfl, hk, han, hyl, hr, hok1, hok2, hf⟩ := hrel
            have HK := Lib.hid hk; have HYL := Lib.hid hyl; have HR := Lib.hid hr; have HOK1 := Lib.hid hok1; have HOK2 := Lib.hid hok2; have HF := Lib.hid hf
            clear hk hyl hr hok1 hok2 hf
            by_cases hlt : a + 2 * s ≤ n
            · have hltI : (a : Int) + 2 * s ≤ n := by omega
              have b1 := okb_headP HOK2.out (by omega)
              have b2 := okb_headP (okb_tailP HOK2.out) (by omega)
              rw [Nat.min_eq_left (by omega)] at b1 b2
              rw [show a + s + s = a + 2 * s by omega] at b2
              have hsp : ys = ys.take a ++ (segP ys a (a + s) ++ (segP ys (a + s) (a + 2 * s) ++ ys.drop (a + 2 * s))) := by
                rw [← List.append_assoc (segP ys a (a + s)), ← seg_appP ys (by omega) (by omega)]
                exact seg_splitP ys (by omega)
              have l1 : (segP ys a (a + s)).length = s := by rw [seg_lenP (by have := HYL.out; omega)]; omega
              have l2 : (segP ys (a + s) (a + 2 * s)).length = s := by rw [seg_lenP (by have := HYL.out; omega)]; omega
              have l3 : (ys.take a).length = a := by have := HYL.out; simp; omega
              have hrow : Hid (RwP wr bk (ys.take a ++ (segP ys a (a + s) ++ (segP ys (a + s) (a + 2 * s) ++ ys.drop (a + 2 * s))))) := Lib.hid (by rw [← hsp]; exact HR.out)
              have HSP := Lib.hid hsp; have L1 := Lib.hid l1; have L2 := Lib.hid l2; have L3 := Lib.hid l3; have B1 := Lib.hid b1; have B2 := Lib.hid b2
              clear hsp l1 l2 l3 b1 b2
              go_wp2_with fail
              refine (SYM.out _ wr (ys.take a) (segP ys a (a + s)) (segP ys (a + s) (a + 2 * s)) (ys.drop (a + 2 * s)) _ _ _ (Nat.le_refl _) (by rw [L1.out]; omega) (by rw [L2.out]; omega) hrow.out (by rw [← HSP.out, HYL.out]) (by rw [L3.out]) (by rw [L3.out, L1.out]; omega) (by rw [L3.out, L1.out, L2.out]; omega) B1.out.1 B2.out.1 (fun p hp q hq => seg_pairP HRR.out (show a ≤ a + s by omega) (show a + s ≤ a + 2 * s by omega) q (B1.out.2.mem_iff.1 hq) p (B2.out.2.mem_iff.1 hp)) (HC.out.fr HF.out)).mono ?_
              rintro e w3 ⟨rfl, Z, hz1, hz2, hz3, hz4⟩
              have hzl : Z.length = a + 2 * s - a := by rw [hz3.length_eq, List.length_append, L1.out, L2.out]; omega
              have hz5 : Z.Perm (segP X a (a + 2 * s)) := by rw [seg_appP X (show a ≤ a + s by omega) (show a + s ≤ a + 2 * s by omega)]; exact hz3.trans (B1.out.2.append B2.out.2)
              have HZ1 := Lib.hid hz1; have HZ2 := Lib.hid hz2; have HZ3 := Lib.hid hz5; have HZL := Lib.hid hzl; have HF3 := Lib.hid (HF.out.trans hz4)
              clear hz1 hz2 hz3 hz4 hz5 hzl
              go_wp2_with fail
              go_roundw
              case rel =>
                have hp := seg_putP (xs := ys) (Z := Z) (a := a) (b := a + 2 * s) (by omega) (by have := HYL.out; omega) HZL.out
                refine ⟨a + 2 * s, k + 1, ys.take a ++ (Z ++ ys.drop (a + 2 * s)), by first | rfl | (congr 1; done) | (congr 1; omega), by first | rfl | (congr 1; done) | (congr 1; omega), by have := HK.out; rw [Nat.add_mul]; omega, hlt, by rw [hp.1]; exact HYL.out, HZ1.out, ?_, ?_, HF3.out⟩
                · exact okb_snocP (okb_lowP (by omega) (by have := HYL.out; omega) HZL.out HOK1.out) HK.out (by omega) (Nat.le_refl _) (blk_putP (by omega) (by have := HYL.out; omega) HZL.out HZ2.out HZ3.out)
                · refine okb_highP (by omega) (by have := HYL.out; omega) HZL.out ?_
                  have := okb_tailP (okb_tailP HOK2.out)
                  rw [show a + s + s = a + 2 * s by omega] at this
                  exact this
              case measure => simp [intOf]; omega
            · have hltI : ¬ (a : Int) + 2 * s ≤ n := by omega
              by_cases hmn : a + s < n
              · have hmI : (a : Int) + s < n := by omega
                have b1 := okb_headP HOK2.out (by omega)
                have b2 := okb_headP (okb_tailP HOK2.out) hmn
                rw [Nat.min_eq_left (by omega)] at b1
                rw [Nat.min_eq_right (by omega)] at b2
                have hsp : ys = ys.take a ++ (segP ys a (a + s) ++ (segP ys (a + s) n ++ ys.drop n)) := by
                  rw [← List.append_assoc (segP ys a (a + s)), ← seg_appP ys (by omega) (by omega)]
                  exact seg_splitP ys han
                have l1 : (segP ys a (a + s)).length = s := by rw [seg_lenP (by have := HYL.out; omega)]; omega
                have l2 : (segP ys (a + s) n).length = n - (a + s) := by rw [seg_lenP (by have := HYL.out; omega)]
                have l3 : (ys.take a).length = a := by have := HYL.out; simp; omega
                have hrow : Hid (RwP wr bk (ys.take a ++ (segP ys a (a + s) ++ (segP ys (a + s) n ++ ys.drop n)))) := Lib.hid (by rw [← hsp]; exact HR.out)
                have HSP := Lib.hid hsp; have L1 := Lib.hid l1; have L2 := Lib.hid l2; have L3 := Lib.hid l3; have B1 := Lib.hid b1; have B2 := Lib.hid b2
                clear hsp l1 l2 l3 b1 b2
                go_wp2_with fail
                refine (SYM.out _ wr (ys.take a) (segP ys a (a + s)) (segP ys (a + s) n) (ys.drop n) _ _ _ (Nat.le_refl _) (by rw [L1.out]; omega) (by rw [L2.out]; omega) hrow.out (by rw [← HSP.out, HYL.out]) (by rw [L3.out]) (by rw [L3.out, L1.out]; omega) (by rw [L3.out, L1.out, L2.out]; omega) B1.out.1 B2.out.1 (fun p hp q hq => seg_pairP HRR.out (show a ≤ a + s by omega) (show a + s ≤ n by omega) q (B1.out.2.mem_iff.1 hq) p (B2.out.2.mem_iff.1 hp)) (HC.out.fr HF.out)).mono ?_
                rintro e w3 ⟨rfl, Z, hz1, hz2, hz3, hz4⟩
                have hzl : Z.length = n - a := by rw [hz3.length_eq, List.length_append, L1.out, L2.out]; omega
                have hz5 : Z.Perm (segP X a n) := by rw [seg_appP X (show a ≤ a + s by omega) (show a + s ≤ n by omega)]; exact hz3.trans (B1.out.2.append B2.out.2)
                have hp := seg_putP (xs := ys) (Z := Z) (a := a) (b := n) han (by have := HYL.out; omega) hzl
                have hfin : OkbP T X (ys.take a ++ (Z ++ ys.drop n)) (2 * s) 0 n := okb_snocP (okb_lowP han (by have := HYL.out; omega) hzl HOK1.out) HK.out (by omega) (by omega) (blk_putP han (by have := HYL.out; omega) hzl hz2 hz5)
                obtain ⟨y3, hy3⟩ : ∃ y3, ys.take a ++ (Z ++ ys.drop n) = y3 := ⟨_, rfl⟩
                have hl3 := hp.1
                rw [hy3] at hz1 hfin hl3
                have HZ1 := Lib.hid hz1; have HFIN := Lib.hid hfin; have HL3 := Lib.hid (hl3.trans HYL.out); have HF3 := Lib.hid (HF.out.trans hz4)
                clear hz1 hz2 hz3 hz4 hz5 hzl hp hfin hy3 hl3
                go_wp2_with fail
                go_roundw
                case rel => exact ⟨2 * s, y3, by first | rfl | (congr 1; done) | (congr 1; omega), by omega, HL3.out, HZ1.out, HFIN.out, HF3.out⟩
                case measure => simp [intOf]; omega
              · have hmI : ¬ (a : Int) + s < n := by omega
                have hfin : OkbP T X ys (2 * s) 0 n := by
                  by_cases e : a = n
                  · rw [← e]; exact HOK1.out
                  · have b1 := okb_headP HOK2.out (by omega)
                    rw [Nat.min_eq_right (by omega)] at b1
                    exact okb_snocP HOK1.out HK.out (by omega) (by omega) b1
                have HFIN := Lib.hid hfin
                clear hfin
                go_wp2_with fail
                go_roundw
                case rel => exact ⟨2 * s, ys, by first | rfl | (congr 1; done) | (congr 1; omega), by omega, HYL.out, HR.out, HFIN.out, HF.out⟩
                case measure => simp [intOf]; omega
        · have hsI : ¬ (s : Int) < n := by omega
          have hfin : Srt T y ∧ y.Perm X := by
            by_cases e : n = 0
            · have e1 : y = [] := List.eq_nil_of_length_eq_zero (by rw [HYL.out]; exact e)
              have e2 : X = [] := List.eq_nil_of_length_eq_zero (by rw [HN.out]; exact e)
              rw [e1, e2]; exact ⟨Srt.nil, List.Perm.refl _⟩
            · have b1 := okb_headP HOK.out (by omega)
              rw [Nat.zero_add, Nat.min_eq_right (by omega)] at b1
              have e1 : ∀ u : List EP, u.length = n → segP u 0 n = u := fun u hu => by unfold segP; rw [List.drop_zero, List.take_of_length_le (by omega)]
              unfold BlkP at b1
              rw [e1 y HYL.out, e1 X HN.out] at b1
              exact b1
          have HFIN := Lib.hid hfin
          clear hfin
          go_wp2_with fail
          go_end0
          exact ⟨rfl, y, HR.out, HFIN.out.1, HFIN.out.2, HF.out⟩
/-- The same, its elements named by their places. -/
theorem flP_zip : ∀ (l : List PV) (k : Nat), flP (l.zipIdx k) = l.flatMap PV.cs
  | [], _ => rfl
  | x :: r, k => by
    have := flP_zip r (k + 1)
    unfold flP at this ⊢
    rw [List.zipIdx_cons, List.flatMap_cons, List.flatMap_cons, this]
theorem rwP_zip {W : World} {b : Nat} {l : List PV} {rest : List Value} (h : W.heap[b]? = some (.cells (l.flatMap PV.cs ++ rest).toArray 55)) : RwP W b (l.zipIdx 0) := ⟨rest, by rw [flP_zip]; exact h⟩
theorem flP_fst : ∀ (Z : List EP), flP Z = (Z.map Prod.fst).flatMap PV.cs
  | [] => rfl
  | x :: r => by
    have := flP_fst r
    unfold flP at this ⊢
    rw [List.flatMap_cons, List.map_cons, List.flatMap_cons, this]
set_option maxRecDepth 100000 in
set_option maxHeartbeats 4000000 in
/-- slices.SortStableFunc: a row of places of the caller's own is laid in the stable order. -/
theorem sortStableP (w : World) (bk n cap g : Nat) (cb : Value) (cf : PV → PV → Int) (l : List PV) (eg : ∀ args w, (callFunc g args).run Tryz.prog w = .ok (.enter g args) w) (hl : l.length = n) (hm : n ≤ 1000000000000) (hS : SwoB (fun x y => decide (cf x y < 0)))
    (h : RwP w bk (l.zipIdx 0)) (hD : ∀ x ∈ l, ∀ y ∈ l, -1 ≤ cf x y ∧ cf x y ≤ 1) (hc : CmpIP g cb cf bk w) :
    Calls Tryz.prog 40 #[.slice (some ⟨bk, 0, none⟩) n cap, .func (.func g) #[cb] #[]] w fun e w' => e = .returned (.tuple #[]) ∧ (∃ rest : List Value, w'.heap[bk]? = some (.cells ((stab (fun x y => decide (cf x y < 0)) l).flatMap PV.cs ++ rest).toArray 55)) ∧ Fr (fun c => c = bk) w w' := by
  have hst := Lib.hid (stabIP w bk n cap g cb cf (tagT (fun x y => decide (cf x y < 0))) (l.zipIdx 0) eg h (by rw [List.length_zipIdx]; exact hl) hm (tag_tr hS) ((zip_pair l 0).imp_of_mem (fun {q p} hq hp hlt => by
    obtain ⟨h1, h2⟩ := tag_rgt hS hlt
    exact ⟨h1.symm, h2, hD _ (zip_mem hp) _ (zip_mem hq)⟩)) hc)
  have HS := Lib.hid hS
  have hnI : (n : Int) ≤ 1000000000000 := by omega
  clear h hc hl hm hS hD
  go_enter Tryz.func40, Tryz.ntmps40
  go_wp2_with (go_at_call 90; refine hst.out.mono ?_; rintro e w' ⟨rfl, Z, hz1, hz2, hz3, hz4⟩; have HZ1 := Lib.hid hz1; have HZ2 := Lib.hid hz2; have HZ3 := Lib.hid hz3; have HZ4 := Lib.hid hz4; clear hz1 hz2 hz3 hz4)
  go_end0
  refine ⟨rfl, ?_, HZ4.out⟩
  obtain ⟨rest, hr⟩ := HZ1.out
  refine ⟨rest, ?_⟩
  rw [← stab_eq HS.out HZ2.out HZ3.out, ← flP_fst]
  exact hr
end Go.Proofs.YtlniekobijcanaaGreat
