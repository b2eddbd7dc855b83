/- Texts of this claim, joined: Plain: how many Put and Take put or take, in sum; entrepotref27: Count; bins: Move (written by wip/tools/mov27.py); entrepotref27: Move; Plain: the least of what is left, again and again, is the stable order; entrepotref27: Take; The document's cells (entrepotref01): digits, Num; The document's cells (entrepotref01): Maker; The document's cells (entrepotref01): First: what it reads is what cells.First reads: plainly; The document's cells (entrepotref01): First: the walk; The document's cells (entrepotref01): Taker: Num, Flag; The document's cells (entrepotref01): Taker.Text; Plain: what the reference takes out of bytes as a floor is what bins takes; The document's cells (entrepotref01): Maker.Text; entrepotref06: May; entrepotref06: Put; entrepotref27: Pack; entrepotref06: Read. -/
import Derived.Test.YtefjdcghdcbojaaGreatBinsBackM10
import Derived.Test.YtefjdcghdcbojaaGreatBinsBackM11
import Derived.Test.YtefjdcghdcbojaaGreatBinsBackM7
import Derived.Test.YtefjdcghdcbojaaGreatBinsBackM5
import Derived.Test.YtefjdcghdcbojaaGreatBinsBackM4
import Derived.Test.YtefjdcghdcbojaaGreatBinsBackM2
import Derived.BigQuiet
import Derived.Test.YtefjdcghdcbojaaGreatBinsBackM8
import Derived.Lib.AppendStr
import Derived.Test.YtefjdcghdcbojaaGreatBinsBackM3
import Derived.Test.YtefjdcghdcbojaaGreatBinsBackM9
namespace Go.Proofs.YtefjdcghdcbojaaGreat
open Go.RowKit Go.Maps
def sumW (f : BE → Int) (M : List BE) : Int := (M.map f).sum
theorem sumW_cons (f : BE → Int) (b : BE) (M : List BE) : sumW f (b :: M) = f b + sumW f M := by simp [sumW]
theorem sumW_app (f : BE → Int) (A B : List BE) : sumW f (A ++ B) = sumW f A + sumW f B := by simp [sumW]
theorem sum_permZ {A B : List Int} (h : A.Perm B) : A.sum = B.sum := by
  induction h with
  | nil => rfl
  | cons x _ ih => rw [List.sum_cons, List.sum_cons, ih]
  | swap x y l => simp only [List.sum_cons]; omega
  | trans _ _ h1 h2 => exact h1.trans h2
theorem sumW_set (f : BE → Int) : ∀ (M : List BE) (i : Nat) (b x : BE), M[i]? = some b → sumW f (M.set i x) = sumW f M - f b + f x
  | [], i, b, x, h => by simp at h
  | c :: r, 0, b, x, h => by cases h; rw [List.set_cons_zero, sumW_cons, sumW_cons]; omega
  | c :: r, i + 1, b, x, h => by rw [List.set_cons_succ, sumW_cons, sumW_cons, sumW_set f r i b x (by simpa using h)]; omega
theorem sumW_nn {f : BE → Int} {M : List BE} (h : ∀ b ∈ M, 0 ≤ f b) : 0 ≤ sumW f M := by
  induction M with
  | nil => exact Int.le_refl _
  | cons b r ih =>
    rw [sumW_cons]
    have := h b List.mem_cons_self
    have := ih (fun q hq => h q (List.mem_cons_of_mem _ hq))
    omega
theorem sumW_le {f : BE → Int} {X : Int} {M : List BE} (h : ∀ b ∈ M, f b ≤ X) : sumW f M ≤ X * M.length := by
  induction M with
  | nil => simp [sumW]
  | cons b r ih =>
    rw [sumW_cons, List.length_cons]
    have := h b List.mem_cons_self
    have := ih (fun q hq => h q (List.mem_cons_of_mem _ hq))
    rw [Int.natCast_succ, Int.mul_add]
    omega
theorem sumW_filter_eq {f : BE → Int} {M : List BE} (p : BE → Bool) (h : ∀ b ∈ M, p b = false → f b = 0) : sumW f (M.filter p) = sumW f M := by
  induction M with
  | nil => rfl
  | cons b r ih =>
    have h0 := h b List.mem_cons_self
    have := ih (fun q hq => h q (List.mem_cons_of_mem _ hq))
    rw [List.filter_cons]
    split
    · rw [sumW_cons, sumW_cons]; omega
    · rename_i e
      rw [sumW_cons, h0 (by simpa using e)]; omega
def atE (f : BE → Int) (M : List BE) (i : Int) : Int := match M[i.toNat]? with | some b => f b | none => 0
theorem idx_sum (f : BE → Int) (M : List BE) (isF : BE → Bool) : ∀ k, k ≤ M.length → ((idxK M isF k).map (atE f M)).sum = sumW f ((M.take k).filter isF)
  | 0, _ => by simp [idxK, sumW]
  | k + 1, hk => by
    have ih := idx_sum f M isF k (by omega)
    have hM : M[k]? = some (M[k]'(by omega)) := List.getElem?_eq_getElem _
    rw [List.take_add_one, List.filter_append, sumW_app, ← ih]
    unfold idxK
    rw [List.range_succ, List.filter_append, List.map_append, List.map_append, List.sum_append]
    congr 1
    rw [List.filter_cons]
    cases hf : isF (M[k]'(by omega)) with
    | true =>
      have e1 : (M[k]?).any isF = true := by rw [hM]; simpa using hf
      rw [if_pos e1, hM]
      simp [sumW, hf, atE, hM]
    | false =>
      have e1 : ¬ (M[k]?).any isF = true := by rw [hM]; simpa using hf
      rw [if_neg e1, hM]
      simp [sumW, hf]
theorem ord_sum (f : BE → Int) (M : List BE) (isF : BE → Bool) (cf : BE → BE → Int) : ((ordI M isF cf).map (atE f M)).sum = sumW f (M.filter isF) := by
  unfold ordI
  rw [sum_permZ ((stab_perm _ _).map _), idx_sum f M isF _ (Nat.le_refl _), List.take_length]
structure SpS (can wt : BE → Int) (s : Str) (ord : List Int) (M : List BE) (n : Int) (o : List PV) (F : List BE × Int × List PV) : Prop where
  nn : 0 ≤ F.2.1
  le : F.2.1 ≤ n
  wt : sumW wt F.1 = sumW wt M + (n - F.2.1)
  all : F.2.1 = 0 ∨ n - F.2.1 = (ord.map (atE can M)).sum
  most : n - F.2.1 ≤ (ord.map (atE can M)).sum
  out : ∃ o', F.2.2 = o ++ o' ∧ (∀ p ∈ o', p.g = s ∧ 1 ≤ p.n) ∧ (o'.map PV.n).sum = n - F.2.1
theorem spF_sum (P Q : BE → Prop) (can wt : BE → Int) (nE : BE → Int → Int) (s : Str) (hcan : ∀ b, P b → 0 ≤ can b) (hstep : ∀ b k, Q b → P b → 0 < k → k ≤ can b → P (b.put s (nE b k)) ∧ wt (b.put s (nE b k)) = wt b + k) :
    ∀ (ord : List Int) (M : List BE) (n : Int) (o : List PV), ord.Nodup → (∀ i ∈ ord, 0 ≤ i ∧ ∃ b, M[i.toNat]? = some b ∧ Q b) → (∀ b ∈ M, P b) → 0 ≤ n →
      SpS can wt s ord M n o (ord.foldl (stepS can nE s) (M, n, o))
  | [], M, n, o, _, _, hM, hn => ⟨hn, Int.le_refl _, by dsimp only [List.foldl_nil]; omega, .inr (by simp), by simp, [], by simp, by simp, by simp⟩
  | i :: r, M, n, o, hnd, hi, hM, hn => by
    obtain ⟨h0, b, hb, hq⟩ := hi i List.mem_cons_self
    obtain ⟨hn1, hn2⟩ := List.nodup_cons.1 hnd
    rw [List.foldl_cons]
    have hs : stepS can nE s (M, n, o) i = if min n (can b) ≤ 0 then (M, n, o) else (M.set i.toNat (b.put s (nE b (min n (can b)))), n - min n (can b), o ++ [⟨b.nu, s, min n (can b)⟩]) := by
      unfold stepS; dsimp only; rw [hb]
    rw [hs]
    have hbM := List.mem_of_getElem? hb
    have hcb := hcan b (hM b hbM)
    have hat : atE can M i = can b := by unfold atE; rw [hb]
    by_cases hk : min n (can b) ≤ 0
    · rw [if_pos hk]
      have h := spF_sum P Q can wt nE s hcan hstep r M n o hn2 (fun j hj => hi j (List.mem_cons_of_mem _ hj)) hM hn
      have hnn := h.nn; have hle := h.le; have hal := h.all; have hmo := h.most
      refine ⟨h.nn, h.le, h.wt, ?_, ?_, h.out⟩
      · rw [List.map_cons, List.sum_cons, hat]
        omega
      · rw [List.map_cons, List.sum_cons, hat]
        omega
    · rw [if_neg hk]
      obtain ⟨hst1, hst2⟩ := hstep b (min n (can b)) hq (hM b hbM) (by omega) (by omega)
      have hne : ∀ j ∈ r, i.toNat ≠ j.toNat := fun j hj e => by
        obtain ⟨k0, -⟩ := hi j (List.mem_cons_of_mem _ hj)
        have e2 : i = j := by omega
        exact hn1 (e2 ▸ hj)
      have h := spF_sum P Q can wt nE s hcan hstep r (M.set i.toNat (b.put s (nE b (min n (can b))))) (n - min n (can b)) (o ++ [⟨b.nu, s, min n (can b)⟩]) hn2 (fun j hj => by
        obtain ⟨k0, c, hc, hq'⟩ := hi j (List.mem_cons_of_mem _ hj)
        refine ⟨k0, c, ?_, hq'⟩
        rw [List.getElem?_set_ne (hne j hj)]
        exact hc) (fun c hc => by
        obtain ⟨q, hq'⟩ := List.getElem?_of_mem hc
        rcases set_get hq' with ⟨-, rfl⟩ | ⟨-, e2⟩
        · exact hst1
        · exact hM c (List.mem_of_getElem? e2)) (by omega)
      have e : (r.map (atE can (M.set i.toNat (b.put s (nE b (min n (can b))))))) = r.map (atE can M) := List.map_congr_left (fun j hj => by
        unfold atE
        rw [List.getElem?_set_ne (hne j hj)])
      have hnn := h.nn; have hle := h.le; have hal := h.all; have hmo := h.most; have hwt := h.wt
      rw [e] at hal hmo
      rw [sumW_set wt M i.toNat b _ hb, hst2] at hwt
      generalize hF : (List.foldl (stepS can nE s) (M.set i.toNat (b.put s (nE b (min n (can b)))), n - min n (can b), o ++ [⟨b.nu, s, min n (can b)⟩]) r) = F at *
      refine ⟨h.nn, by omega, by omega, ?_, ?_, ?_⟩
      · rw [List.map_cons, List.sum_cons, hat]
        omega
      · rw [List.map_cons, List.sum_cons, hat]
        omega
      · obtain ⟨o', h1, h2, h3⟩ := h.out
        refine ⟨⟨b.nu, s, min n (can b)⟩ :: o', by rw [h1, List.append_assoc]; rfl, fun p hp => ?_, ?_⟩
        · rcases List.mem_cons.1 hp with rfl | hp
          · exact ⟨rfl, by dsimp only; omega⟩
          · exact h2 p hp
        · rw [List.map_cons, List.sum_cons, h3]; dsimp only; omega
theorem BEok.left {b : BE} (h : BEok b) : leftE b = b.ro - sumI b.its ∧ 0 ≤ leftE b ∧ leftE b ≤ 1099511627776 := by
  have h1 := (h.bw []).left; have h2 := h.tot; have h3 := h.ro; have h4 := sumI_nn (h.bw []).pos
  omega
theorem BEok.ofs {b : BE} (h : BEok b) (s : Str) : ofF b.its s = getI b.its s ∧ 0 ≤ ofF b.its s ∧ ofF b.its s ≤ 1099511627776 := by
  have h1 := (h.bw s).of s; have h2 := getI_nn s (h.bw s).pos; have h3 := getI_le s (h.bw s).pos; have h4 := h.tot; have h5 := h.ro
  omega
theorem of_put {b : BE} {s : Str} {m : Int} (hp : BEok (b.put s m)) (h0 : 0 ≤ m) : ofF (b.put s m).its s = m := by
  rw [(hp.ofs s).1]
  show getI (setF b.its s m) s = m
  rw [getI_set, if_pos rfl]
  split <;> omega
section
variable {M : List BE} {s : Str} {n : Int}
theorem put_sum (h : ∀ b ∈ M, BEok b) (hg : goodB s = true) (hn : 0 ≤ n) : SpS leftE (fun b => ofF b.its s) s (ordI M (fun b => kindE b s != 3) (cfPut s)) M n [] (putF M s n) := by
  unfold putF spF
  refine spF_sum BEok (fun b => kindE b s ≠ 3) _ _ _ s (fun b hb => hb.left.2.1) (fun b k hq hp h0 h1 => ?_) _ M n [] (ordI_nodup _ _ _) (fun i hi => ?_) h hn
  · have := beok_put hp hg hq h0 h1
    have h2 := (hp.ofs s).2.1
    refine ⟨this, ?_⟩
    rw [of_put this (by omega)]
  · obtain ⟨h0, b, hb, hf⟩ := ordI_is hi
    exact ⟨h0, b, hb, by simpa using hf⟩
theorem take_sum (h : ∀ b ∈ M, BEok b) (hg : goodB s = true) (hn : 0 ≤ n) : SpS (fun b => ofF b.its s) (fun b => - ofF b.its s) s (ordI M (fun b => decide (0 < ofF b.its s)) (cfTake s)) M n [] (takeF M s n) := by
  unfold takeF spF
  refine spF_sum BEok (fun _ => True) _ _ _ s (fun b hb => (hb.ofs s).2.1) (fun b k hq hp h0 h1 => ?_) _ M n [] (ordI_nodup _ _ _) (fun i hi => ?_) h hn
  · have := beok_take hp hg h0 h1
    have h2 := (hp.ofs s).2.1
    refine ⟨this, ?_⟩
    rw [of_put this (by omega)]
    omega
  · obtain ⟨h0, b, hb, hf⟩ := ordI_is hi
    exact ⟨h0, b, hb, trivial⟩
theorem sumE_aux (s : Str) : ∀ (M : List BE) (a : Int), (∀ b ∈ M, BEok b) → 0 ≤ a → a + 1099511627776 * (M.length : Int) ≤ 9223372036854775807 → M.foldl (fun a b => wrap64 (a + ofF b.its s)) a = a + sumW (fun b => ofF b.its s) M
  | [], a, _, _, _ => by simp [sumW]
  | b :: r, a, h, h0, h1 => by
    have hb := ((h b List.mem_cons_self).ofs s).2
    rw [List.length_cons, Int.natCast_succ, Int.mul_add] at h1
    rw [List.foldl_cons, wrap64_in ⟨by omega, by omega⟩, sumE_aux s r _ (fun c hc => h c (List.mem_cons_of_mem _ hc)) (by omega) (by omega), sumW_cons]
    omega
theorem sumE_sum (h : ∀ b ∈ M, BEok b) (hl : M.length ≤ 64) : sumE M s = sumW (fun b => ofF b.its s) M := by
  have := sumE_aux s M 0 h (Int.le_refl _) (by omega)
  unfold sumE
  omega
theorem take_all (h : ∀ b ∈ M, BEok b) : sumW (fun b => ofF b.its s) (M.filter fun b => decide (0 < ofF b.its s)) = sumW (fun b => ofF b.its s) M :=
  sumW_filter_eq _ (fun b hb hp => by
    have := ((h b hb).ofs s).2.1
    have := of_decide_eq_false hp
    omega)
end
theorem full_take {M : List BE} (h : ∀ b ∈ M, BEok b) {s : Str} (hg : goodB s = true) {R : Int} (h0 : 0 ≤ R) (hl : R ≤ sumW (fun b => ofF b.its s) M) : (takeF M s R).2.1 = 0 ∧ sumW (fun b => ofF b.its s) (takeF M s R).1 = sumW (fun b => ofF b.its s) M - R := by
  have p1 := take_sum h hg h0
  have hal := p1.all; have hwt := p1.wt; have hnn := p1.nn
  rw [ord_sum, take_all h] at hal
  have e4 : ∀ L, sumW (fun b => - ofF b.its s) L = - sumW (fun b => ofF b.its s) L := fun L => by
    induction L with
    | nil => rfl
    | cons b r ih => rw [sumW_cons, sumW_cons, ih]; omega
  rw [e4, e4] at hwt
  omega
theorem take_less {M : List BE} (h : ∀ b ∈ M, BEok b) {s : Str} (hg : goodB s = true) {n : Int} (h0 : 0 ≤ n) (hl : sumW (fun b => ofF b.its s) M < n) : 0 < (takeF M s n).2.1 := by
  have p1 := (take_sum h hg (n := n) (by omega)).most
  rw [ord_sum, take_all h] at p1
  omega
end Go.Proofs.YtefjdcghdcbojaaGreat

namespace Go.Proofs.YtefjdcghdcbojaaGreat
open Go.RowKit Go.Maps
/-- What Count leaves. -/
def CrP (w : World) (g : Nat) (TS : Nat → Prop) (R : Int × Int × List BE) (e : Ending) (w' : World) : Prop :=
  e = .returned (.tuple #[.int .i64 R.1, .int .i64 R.2.1]) ∧ ∃ L' TS', RA w' g TS' L' ∧ L'.map BV.e = R.2.2 ∧ Stp TS w w' TS'
theorem CrP.same {w w' : World} {g : Nat} {TS : Nat → Prop} {L : List BV} {a b : Int} (h : RA w g TS L) (hf : Fr (fun _ => False) w w') : CrP w g TS (a, b, L.map BV.e) (.returned (.tuple #[.int .i64 a, .int .i64 b])) w' :=
  ⟨rfl, L, TS, h.fr hf (fun _ _ e => e), rfl, Stp.refl hf⟩
theorem SrI.fin {w W : World} {g r cap N : Nat} {TS : Nat → Prop} {L Lj : List BV} {PE : BE → Prop} {vo : Value} {out : List PV} {M : List BE} (h : RA w g TS L) (hN : L.length = N) (hI : SrI w (fun c => TS c ∧ c ≠ g) r cap N PE W Lj vo out) (hcm : cap ≤ maxLen) (hM : Lj.map BV.e = M) :
    ∃ L' TS', RA (W.setCell ⟨g, 0, none⟩ (.slice (some ⟨r, 0, none⟩) N cap)) g TS' L' ∧ L'.map BV.e = M ∧ Stp TS w (W.setCell ⟨g, 0, none⟩ (.slice (some ⟨r, 0, none⟩) N cap)) TS' := by
  obtain ⟨-, -, -, h1, h2⟩ := SrI.done h hN hI hcm
  refine ⟨Lj, _, h1, hM, (hI.fr.mono (fun _ _ e => e.elim)).trans (h2.mono (fun b _ e => by have e : b = g := e; rw [e]; exact h.own)), fun b hb => hb.imp id (fun h => h.1)⟩
theorem bv_slices {w : World} {v : Value} {L : List BV} (h : Bl w v L) : ∀ u ∈ flat BV.cs L, u.oneCell' = true := bv_one (fun b hb => by obtain ⟨a, c, e⟩ := (h.okm hb).l.sl; exact ⟨a, _, c, e⟩)
set_option maxRecDepth 100000 in
set_option maxHeartbeats 16000000 in
theorem rCount (w : World) (g : Nat) (TS : Nat → Prop) (L : List BV) (nu : Int) (s : Str) (n : Int) (h : RA w g TS L) (hok : ∀ x ∈ L.map BV.e, BEok x) (hL : L.length ≤ 64) (hs : okS s) (hn : okI n) :
    Calls Tryz.prog 46 #[.pointer (some ⟨g, 0, none⟩), .int .i64 nu, vS s, .int .i64 n] w fun e w' => CrP w g TS (countE (L.map BV.e) nu s n) e w' := by
  obtain ⟨j0, hj', hy0, hy1, hy2⟩ := info_parts infoRowS
  unfold countE
  rw [find_map]
  have hfd := Lib.hid (rFind w g L nu h.rl)
  have HA := Lib.hid h
  have hgd := fun W => r6Good W s hs
  have hmy := fun W => r5May W n
  cases hi : L.findIdx? (fun b => decide (b.nu = nu)) with
  | none =>
    dsimp only
    rw [findF_none hi] at hfd
    clear hok hs hn hgd hmy hi h
    go_enter Tryz.func46, Tryz.ntmps46
    go_wp2_with (go_at_call 81; refine hfd.out.mono ?_; rintro e w1 ⟨rfl, hf1⟩; have HF1 := Lib.hid hf1; clear hf1)
    go_ret2
    exact CrP.same HA.out HF1.out
  | some i =>
    rw [findF_some hi] at hfd
    obtain ⟨x, hx⟩ : ∃ x, L[i]? = some x := by
      have := (List.findIdx?_eq_some_iff_getElem.1 hi)
      obtain ⟨hl, -⟩ := this
      exact ⟨_, List.getElem?_eq_getElem hl⟩
    have hxe : (L.map BV.e)[i]? = some x.e := by rw [List.getElem?_map, hx]; rfl
    dsimp only
    rw [hxe]
    dsimp only
    have hbe := hok x.e (List.mem_of_getElem? hxe)
    have hnn : ¬ (i : Int) < 0 := by omega
    by_cases hgm : goodB s = true ∧ mayI n = true
    · rw [if_pos hgm]
      simp only [hgm.1] at hgd
      simp only [hgm.2] at hmy
      have HGD := Lib.hid hgd; have HMY := Lib.hid hmy
      have hmi := mayI_iff.1 hgm.2
      have hlo := hbe.left.2
      have hoo := (hbe.ofs s).2
      have hiN := (List.getElem?_eq_some_iff.1 hx).1
      obtain ⟨N, hN⟩ : ∃ N, L.length = N := ⟨_, rfl⟩
      have HN := Lib.hid hN
      rw [hN] at hiN hL
      have hiI : (i : Int) < N := by omega
      have hNI : (N : Int) ≤ 64 := by omega
      have HX := Lib.hid hx; have HBE := Lib.hid hbe
      obtain ⟨K, hKe⟩ : ∃ K, kindE x.e s = K := ⟨_, rfl⟩
      obtain ⟨LE, hLE⟩ : ∃ LE, leftE x.e = LE := ⟨_, rfl⟩
      obtain ⟨O, hO⟩ : ∃ O, ofF x.its s = O := ⟨_, rfl⟩
      have hO' : ofF x.e.its s = O := hO
      rw [hKe, hLE, hO']
      rw [hLE] at hlo; rw [hO'] at hoo
      have hTk := Lib.hid (fun W (hb : BOk W x) => rTakes W x s hb)
      have hLf := Lib.hid (fun W (hb : BOk W x) => rLeft1 W x hb)
      rw [hKe] at hTk
      rw [hLE] at hLf
      have hw1 : IntKind.i64.wrap (LE + O) = LE + O := IntWalk.i64_in _ ⟨by omega, by omega⟩
      have hw2 : IntKind.i64.wrap (n - O) = n - O := IntWalk.i64_in _ ⟨by omega, by omega⟩
      -- the facts behind a call that only lays blocks
      have hfacts : Hid (∀ W, Fr (fun _ => False) w W → ∃ ad c, W.cell? ⟨g, 0, none⟩ = some (.slice (some ad) N c) ∧ W.cell? (ad.add (i * 4)) = some (.int .i64 x.nu) ∧ W.cell? ⟨(ad.add (i * 4)).block, (ad.add (i * 4)).off + 1, none⟩ = some (.int .i64 x.zo) ∧ W.cell? ⟨(ad.add (i * 4)).block, (ad.add (i * 4)).off + 2, none⟩ = some (.int .i64 x.ro) ∧ W.cell? ⟨(ad.add (i * 4)).block, (ad.add (i * 4)).off + 3, none⟩ = some x.l ∧ BOk W x ∧ Rd W 4 (some ad) N (flat BV.cs L) ∧ ∀ u ∈ flat BV.cs L, u.oneCell' = true) := Lib.hid (fun W hf => by
        obtain ⟨a, c, q1, q2⟩ := (h.fr hf (fun _ _ e => e)).rl
        have q1' := q1
        rw [hN] at q1'
        have hrd := q2.rd bvSize (by omega)
        obtain ⟨ad, rfl, hk, z0, zs⟩ := q2.at_ hx
        rw [hN] at hrd
        exact ⟨ad, c, cell_obj q1' 0 _ rfl, z0 _ rfl, zs 0 _ rfl, zs 1 _ rfl, zs 2 _ rfl, hk, hrd, bv_slices q2⟩)
      obtain ⟨ad, c, u0, -⟩ := hfacts.out w (Fr.refl _ _)
      have HFX : Hid (∀ W, Fr (fun _ => False) w W → W.cell? ⟨g, 0, none⟩ = some (.slice (some ad) N c) ∧ W.cell? (ad.add (i * 4)) = some (.int .i64 x.nu) ∧ W.cell? ⟨(ad.add (i * 4)).block, (ad.add (i * 4)).off + 1, none⟩ = some (.int .i64 x.zo) ∧ W.cell? ⟨(ad.add (i * 4)).block, (ad.add (i * 4)).off + 2, none⟩ = some (.int .i64 x.ro) ∧ W.cell? ⟨(ad.add (i * 4)).block, (ad.add (i * 4)).off + 3, none⟩ = some x.l ∧ BOk W x ∧ Rd W 4 (some ad) N (flat BV.cs L)) := Lib.hid (fun W hf => by
        obtain ⟨ad', c', k0, k1⟩ := hfacts.out W hf
        have := hf.cell u0 (fun e => e)
        rw [k0] at this
        injection this with this
        injection this with e1 _ e2
        injection e1 with e1
        subst e1; subst e2
        exact ⟨k0, k1.1, k1.2.1, k1.2.2.1, k1.2.2.2.1, k1.2.2.2.2.1, k1.2.2.2.2.2.1⟩)
      have HONE : Hid (∀ u ∈ flat BV.cs L, u.oneCell' = true) := Lib.hid (by obtain ⟨_, _, _, _, _, _, _, _, _, k⟩ := hfacts.out w (Fr.refl _ _); exact k)
      have hri : RiseI x.its := by
        have hm := hbe.may
        unfold mayL at hm
        simp only [Bool.and_eq_true, decide_eq_true_eq] at hm
        exact (itsOk_rise hm.1).1
      have hl16 := hbe.items.1
      have hSt := Lib.hid (fun W (hb : BOk W x) => rSet W x s n hb hs hn hmi.1 hri (by have : x.e.its.length = x.its.length := rfl; omega))
      have hOf := Lib.hid (fun W (hb : BOk W x) => r6OfB W x.l x.its s hb.l)
      rw [hO] at hOf
      have hSET : Hid ((L.map BV.e).set i (x.e.put s n) = ((L.map BV.e).set i (x.e.put s n))) := Lib.hid rfl
      have HLT : Hid (∀ b ∈ L, True) := Lib.hid (fun _ _ => trivial)
      obtain ⟨xl, hxl⟩ : ∃ xl, x.l = xl := ⟨_, rfl⟩
      obtain ⟨la, lc, hle⟩ : ∃ la lc, x.l = .slice la x.its.length lc := by
        obtain ⟨_, _, q1, q2⟩ := h.rl
        exact (q2.okm (List.mem_of_getElem? hx)).l.sl
      obtain ⟨m, hm⟩ : ∃ m, x.its.length = m := ⟨_, rfl⟩
      rw [hm] at hle
      have hcs : BV.cs x = #[.int .i64 x.nu, .int .i64 x.zo, .int .i64 x.ro, .slice la m lc] := by unfold BV.cs; rw [hle]
      rw [hcs] at hTk hLf hSt
      rw [hle] at hOf HFX
      have HCS := Lib.hid hcs; have HLE := Lib.hid hle
      clear hfacts hok hs hgd hmy hi h hgm hx hxe hbe hN hKe hLE hO hO' hri hl16 hxl u0 hm hcs hle
      by_cases hbad : 0 < n ∧ (K = 3 ∨ LE + O < n)
      · rw [if_pos hbad]
        obtain ⟨hp, hb⟩ := hbad
        by_cases hk : K = 3
        · have hkb : (K != 3) = false := by simp [hk]
          rw [hkb] at hTk
          clear hb hk hkb
          go_enter Tryz.func46, Tryz.ntmps46
          go_wp2_with (first
            | (go_at_call 81; refine hfd.out.mono ?_; rintro e w1 ⟨rfl, hf1⟩; have HF := Lib.hid hf1; obtain ⟨z0, z1, z2, z3, z4, -⟩ := HFX.out _ hf1; clear hf1)
            | (go_at_call 92; refine (HGD.out _).mono ?_; rintro e w2 ⟨rfl, rfl⟩)
            | (go_at_call 93; refine (HMY.out _).mono ?_; rintro e w3 ⟨rfl, rfl⟩)
            | (go_at_call 62; refine (hOf.out _ (HFX.out _ HF.out).2.2.2.2.2.1).mono ?_; rintro e w4 ⟨rfl, rfl⟩)
            | (go_at_call 89; refine (hTk.out _ (HFX.out _ HF.out).2.2.2.2.2.1).mono ?_; rintro e w5 ⟨rfl, hf5⟩; have HF := Lib.hid (HF.out.trans hf5); clear hf5))
          go_ret2
          exact CrP.same HA.out HF.out
        · have hkb : (K != 3) = true := by simp [hk]
          have hlt : LE + O < n := hb.resolve_left hk
          rw [hkb] at hTk
          clear hb hk hkb
          go_enter Tryz.func46, Tryz.ntmps46
          go_wp2_with (first
            | (go_at_call 81; refine hfd.out.mono ?_; rintro e w1 ⟨rfl, hf1⟩; have HF := Lib.hid hf1; obtain ⟨z0, z1, z2, z3, z4, -⟩ := HFX.out _ hf1; clear hf1)
            | (go_at_call 92; refine (HGD.out _).mono ?_; rintro e w2 ⟨rfl, rfl⟩)
            | (go_at_call 93; refine (HMY.out _).mono ?_; rintro e w3 ⟨rfl, rfl⟩)
            | (go_at_call 62; refine (hOf.out _ (HFX.out _ HF.out).2.2.2.2.2.1).mono ?_; rintro e w4 ⟨rfl, rfl⟩)
            | (go_at_call 89; refine (hTk.out _ (HFX.out _ HF.out).2.2.2.2.2.1).mono ?_; rintro e w5 ⟨rfl, hf5⟩; have HF := Lib.hid (HF.out.trans hf5); obtain ⟨z0, z1, z2, z3, z4, -⟩ := HFX.out _ HF.out; clear hf5)
            | (go_at_call 27; refine (hLf.out _ (HFX.out _ HF.out).2.2.2.2.2.1).mono ?_; rintro e w6 ⟨rfl, hf6⟩; have HF := Lib.hid (HF.out.trans hf6); clear hf6))
          go_ret2
          exact CrP.same HA.out HF.out
      · rw [if_neg hbad]
        have hways : ¬ 0 < n ∨ (0 < n ∧ (K != 3) = true ∧ ¬ LE + O < n) := by
          by_cases hp : 0 < n
          · right
            refine ⟨hp, ?_, fun e => hbad ⟨hp, .inr e⟩⟩
            have : ¬ K = 3 := fun e => hbad ⟨hp, .inl e⟩
            simpa using this
          · exact .inl hp
        clear hbad
        rcases hways with hp | ⟨hp, hkb, hlt⟩
        all_goals
          (try rw [hkb] at hTk)
          go_enter Tryz.func46, Tryz.ntmps46
          go_wp2_with (first
            | (go_at_call 81; refine hfd.out.mono ?_; rintro e w1 ⟨rfl, hf1⟩; have HF := Lib.hid hf1; obtain ⟨z0, z1, z2, z3, z4, -⟩ := HFX.out _ hf1; have za := ((Fr.refl (fun _ => False) w1).alloc (.cells #[] 75)).cell z0 (fun e => e); clear hf1)
            | (go_at_call 92; refine (HGD.out _).mono ?_; rintro e w2 ⟨rfl, rfl⟩)
            | (go_at_call 93; refine (HMY.out _).mono ?_; rintro e w3 ⟨rfl, rfl⟩)
            | (go_at_call 62; refine (hOf.out _ (HFX.out _ HF.out).2.2.2.2.2.1).mono ?_; rintro e w4 ⟨rfl, rfl⟩)
            | (go_at_call 89; refine (hTk.out _ (HFX.out _ HF.out).2.2.2.2.2.1).mono ?_; rintro e w5 ⟨rfl, hf5⟩; have HF := Lib.hid (HF.out.trans hf5); obtain ⟨z0, z1, z2, z3, z4, -⟩ := HFX.out _ HF.out; clear hf5)
            | (go_at_call 27; refine (hLf.out _ (HFX.out _ HF.out).2.2.2.2.2.1).mono ?_; rintro e w6 ⟨rfl, hf6⟩; have HF := Lib.hid (HF.out.trans hf6); obtain ⟨z0, z1, z2, z3, z4, -⟩ := HFX.out _ HF.out; have za := ((Fr.refl (fun _ => False) w6).alloc (.cells #[] 75)).cell z0 (fun e => e); clear hf6)
            | (at_builtin; refine wpList_append_src rfl _ _ 69 rfl w6.heap.size 75 j0 (.agg #[.int .i64 0, .int .i64 0, .int .i64 0, .slice none 0 0]) 48 Tryz.underlying69 hj' hy0 hy1 hy2 rfl (by decide) (.slice (some ⟨w6.heap.size, 0, none⟩) 0 0) 0 [] rfl (World.ownsRow_made w6 #[] 0 (Nat.le_refl _) (Nat.zero_le _) rfl) _ rfl (HFX.out _ (HF.out.alloc _)).2.2.2.2.2.2 HONE.out (by unfold maxLen; omega) (by omega) (by simp) ?_; intro v9 w9 hown9 hgrow9 hloc9; have hf9 : Fr (fun _ => False) w w9 := (HF.out.alloc _).trans' (Fr.grown (S := fun b => w6.heap.size ≤ b) hgrow9 (fun r hr _ => by cases hr; exact Nat.le_refl _)) (fun b hb e => by have := HF.out.size; omega); rw [Nat.zero_add, List.nil_append] at hown9; obtain ⟨r, cap, hve, hcm, hsr⟩ := SrI.start (fun _ => True) HA.out hf9 (by rw [HN.out]; exact own_base hown9 HF.out.size) (by rw [HN.out]; omega) (fun _ _ => trivial); rw [HN.out] at hve hsr; subst hve; have HCM := Lib.hid hcm; have HI := Lib.hid hsr; obtain ⟨p0, p1, p2, p3, -⟩ := hsr.cells HX.out; rw [HLE.out] at p3; clear hown9 hgrow9 hloc9 hf9 hcm hsr z0 z1 z2 z3 z4 za)
            | (at_builtin; refine wpList_append_src rfl _ _ 69 rfl w1.heap.size 75 j0 (.agg #[.int .i64 0, .int .i64 0, .int .i64 0, .slice none 0 0]) 48 Tryz.underlying69 hj' hy0 hy1 hy2 rfl (by decide) (.slice (some ⟨w1.heap.size, 0, none⟩) 0 0) 0 [] rfl (World.ownsRow_made w1 #[] 0 (Nat.le_refl _) (Nat.zero_le _) rfl) _ rfl (HFX.out _ (HF.out.alloc _)).2.2.2.2.2.2 HONE.out (by unfold maxLen; omega) (by omega) (by simp) ?_; intro v9 w9 hown9 hgrow9 hloc9; have hf9 : Fr (fun _ => False) w w9 := (HF.out.alloc _).trans' (Fr.grown (S := fun b => w1.heap.size ≤ b) hgrow9 (fun r hr _ => by cases hr; exact Nat.le_refl _)) (fun b hb e => by have := HF.out.size; omega); rw [Nat.zero_add, List.nil_append] at hown9; obtain ⟨r, cap, hve, hcm, hsr⟩ := SrI.start (fun _ => True) HA.out hf9 (by rw [HN.out]; exact own_base hown9 HF.out.size) (by rw [HN.out]; omega) (fun _ _ => trivial); rw [HN.out] at hve hsr; subst hve; have HCM := Lib.hid hcm; have HI := Lib.hid hsr; obtain ⟨p0, p1, p2, p3, -⟩ := hsr.cells HX.out; rw [HLE.out] at p3; clear hown9 hgrow9 hloc9 hf9 hcm hsr z0 z1 z2 z3 z4 za)
            | (go_at_call 88; refine (hSt.out _ (HI.out.bins x (List.mem_of_getElem? HX.out)).1).mono ?_; rintro e w10 ⟨v, rfl, hb3, hv3, hf3⟩; have hi3 := HI.out.keep0 hf3; obtain ⟨p0, p1, p2, p3, pf⟩ := hi3.cells HX.out; rw [HLE.out] at p3; have f0 := pf (i * 4); have f1 := pf (i * 4 + 1); have f2 := pf (i * 4 + 2); have f3 := pf (i * 4 + 3); obtain ⟨va, vc, hve⟩ := hb3.l.sl; dsimp only [BV.put] at hve; subst hve; have hi4 := hi3.store HX.out hb3 trivial (fun c hc => by have h1 := (hv3 c hc).1; obtain ⟨⟨cur, k1, -⟩, -⟩ := HI.out; have h2 := (Array.getElem?_eq_some_iff.1 k1).1; exact ⟨by omega, by simp [Value.ownBlock], .inr (by have := HI.out.fr.size; omega)⟩); obtain ⟨W4, hW4⟩ : ∃ W, ((((w10.setCell ⟨r, i * 4, none⟩ (.int .i64 x.nu)).setCell ⟨r, i * 4 + 1, none⟩ (.int .i64 x.zo)).setCell ⟨r, i * 4 + 2, none⟩ (.int .i64 x.ro)).setCell ⟨r, i * 4 + 3, none⟩ (.slice va (setF x.its s n).length vc)) = W := ⟨_, rfl⟩; have hi4' : SrI w (fun c => TS c ∧ c ≠ g) r cap N (fun _ => True) W4 (L.set i (x.put (.slice va (setF x.its s n).length vc) s n)) (.slice none 0 0) [] := (by rw [← hW4]; exact hi4); have HI4 := Lib.hid hi4'; obtain ⟨-, gz, ⟨gv, gc⟩, -⟩ := SrI.done HA.out HN.out hi4' HCM.out; dsimp only [BV.cs, BV.put]; clear hb3 hv3 hf3 hi3 hi4 hi4' pf))
          go_ret2
          exact ⟨rfl, SrI.fin HA.out HN.out HI4.out HCM.out (by rw [List.map_set]; rfl)⟩
    · rw [if_neg hgm]
      have hways : goodB s = false ∨ (goodB s = true ∧ mayI n = false) := by
        cases h1 : goodB s with
        | false => exact .inl rfl
        | true => exact .inr ⟨rfl, by cases h2 : mayI n with | false => rfl | true => exact absurd ⟨h1, h2⟩ hgm⟩
      clear hok hs hn hi h hgm hx hxe hbe
      rcases hways with h1 | ⟨h1, h2⟩
      · simp only [h1] at hgd
        have HGD := Lib.hid hgd
        clear hgd hmy h1
        go_enter Tryz.func46, Tryz.ntmps46
        go_wp2_with (first
          | (go_at_call 81; refine hfd.out.mono ?_; rintro e w1 ⟨rfl, hf1⟩; have HF := Lib.hid hf1; clear hf1)
          | (go_at_call 92; refine (HGD.out _).mono ?_; rintro e w2 ⟨rfl, rfl⟩))
        go_ret2
        exact CrP.same HA.out HF.out
      · simp only [h1] at hgd
        simp only [h2] at hmy
        have HGD := Lib.hid hgd; have HMY := Lib.hid hmy
        clear hgd hmy h1 h2
        go_enter Tryz.func46, Tryz.ntmps46
        go_wp2_with (first
          | (go_at_call 81; refine hfd.out.mono ?_; rintro e w1 ⟨rfl, hf1⟩; have HF := Lib.hid hf1; clear hf1)
          | (go_at_call 92; refine (HGD.out _).mono ?_; rintro e w2 ⟨rfl, rfl⟩)
          | (go_at_call 93; refine (HMY.out _).mono ?_; rintro e w3 ⟨rfl, rfl⟩))
        go_ret2
        exact CrP.same HA.out HF.out
end Go.Proofs.YtefjdcghdcbojaaGreat

namespace Go.Proofs.YtefjdcghdcbojaaGreat
open Go.RowKit Go.Maps
def moveE (M : List BE) (s : Str) (fr tt n : Int) : Int × List BE :=
  match M.findIdx? (fun b => decide (b.nu = fr)), M.findIdx? (fun b => decide (b.nu = tt)) with
  | some i, some j =>
    if i = j then (270, M) else if mayF s n ≠ 0 then (mayF s n, M) else
    match M[i]?, M[j]? with
    | some x, some y => if ofF x.its s < n then (51, M) else if kindE y s = 3 ∨ leftE y < n then (2, M) else (0, (M.set i (x.put s (ofF x.its s - n))).set j (y.put s (ofF y.its s + n)))
    | _, _ => (270, M)
  | _, _ => (270, M)
def MvP (w : World) (g : Nat) (TS : Nat → Prop) (R : Int × List BE) (e : Ending) (w' : World) : Prop :=
  e = .returned (.int .i64 R.1) ∧ ∃ L' TS', FA w' g TS' L' ∧ L'.map BV.e = R.2 ∧ Stp TS w w' TS'
theorem MvP.same {w w' : World} {g : Nat} {TS : Nat → Prop} {L : List BV} {a : Int} (h : FA w g TS L) (hf : Fr (fun _ => False) w w') : MvP w g TS (a, L.map BV.e) (.returned (.int .i64 a)) w' :=
  ⟨rfl, L, TS, h.fr hf (fun _ _ e => e), rfl, Stp.refl hf⟩
/-- A bin is set in place (its goods lie in blocks that the floor owns). -/
theorem FB.set2 {w : World} {g r cap : Nat} {TS : Nat → Prop} {L : List BV} (h : FB w g TS L r cap) {i : Nat} {x b : BV} (hx : L[i]? = some x) (hb : BOk w b) (hn : b.its ≠ [] → ∀ c, b.l.ownBlock = some c → TS c ∧ c ≠ g ∧ c ≠ r) : FB (w.setCells r (i * 4) (BV.cs b).toList) g TS (L.set i b) r cap ∧ Fr (fun c => c = r) w (w.setCells r (i * 4) (BV.cs b).toList) := by
  obtain ⟨h0, ⟨cur, h1, h2, h3⟩, hle, ho, h9, hl⟩ := h
  have hi := (List.getElem?_eq_some_iff.1 hx).1
  have g1 : (i + 1) * 4 ≤ L.length * 4 := Nat.mul_le_mul_right 4 (by omega)
  have g2 : L.length * 4 ≤ cap * 4 := Nat.mul_le_mul_right 4 hle.1
  have hcl : (BV.cs b).toList.length = 4 := rfl
  obtain ⟨cur', c1, c2, c3⟩ := row_setCells (BV.cs b).toList (i * 4) h1 (by rw [hcl]; omega)
  have hf : Fr (fun c => c = r) w (w.setCells r (i * 4) (BV.cs b).toList) := fr_setCells _ _ (Fr.refl _ w) (fun _ => rfl)
  rw [hcl] at c3
  refine ⟨⟨by rw [List.length_set]; exact hf.at_ h0 (fun e => ho.2.2 e.symm), ⟨cur', c1, by omega, by rw [List.length_set]; exact flat_set hx h3 (by omega) c3⟩, by rw [List.length_set]; exact hle, ho, fun y hy => ?_, fun c hc => Nat.lt_of_lt_of_le (hl c hc) hf.size⟩, hf⟩
  obtain ⟨q, hq⟩ := List.getElem?_of_mem hy
  rcases set_get hq with ⟨-, rfl⟩ | ⟨-, e2⟩
  · exact ⟨hb.keep hf (fun hne c hc e => (hn hne c hc).2.2 e), hn⟩
  · obtain ⟨k1, k2⟩ := h9 y (List.mem_of_getElem? e2)
    exact ⟨k1.keep hf (fun hne c hc e => (k2 hne c hc).2.2 e), k2⟩
set_option maxRecDepth 100000 in
set_option maxHeartbeats 16000000 in
theorem bMove_a (w : World) (g : Nat) (TS : Nat → Prop) (L : List BV) (s : Str) (fr tt n : Int) (h : FA w g TS L) (hL : 0 < L.length) (hi : findF L fr = -1) {q : Int} (hj : findF L tt = q) : Calls Tryz.prog 43 #[.pointer (some ⟨g, 0, none⟩), vS s, .int .i64 fr, .int .i64 tt, .int .i64 n] w fun e w' => e = .returned (.int .i64 270) ∧ Fr (fun _ => False) w w' := by
  have hfd := Lib.hid (fun W m (hf : Fr (fun _ => False) w W) => bFind W g L m (h.fl.keep hf) hL)
  have hm := Lib.hid (fun W (hf : Fr (fun _ => False) w W) => bMade W g L (h.fl.keep hf) hL)
  have HF := Lib.hid (Fr.refl (fun _ => False) w)
  have hfi := Lib.hid hi; have hfj := Lib.hid hj
  clear h hL hi hj
  go_enter Tryz.func43, Tryz.ntmps43
  go_wp2_with (first
    | (go_at_call 77; refine (hfd.out _ _ HF.out).mono ?_; (first | rw [hfi.out] | rw [hfj.out]); rintro e w2 ⟨rfl, hf2⟩; have HF := Lib.hid (HF.out.trans hf2); clear hf2)
    | (go_at_call 34; refine (hm.out _ HF.out).mono ?_; rintro e w3 ⟨rfl, rfl⟩))
  go_ret
  exact ⟨rfl, HF.out⟩
set_option maxRecDepth 100000 in
set_option maxHeartbeats 16000000 in
theorem bMove_b (w : World) (g : Nat) (TS : Nat → Prop) (L : List BV) (s : Str) (fr tt n : Int) (h : FA w g TS L) (hL : 0 < L.length) {i : Nat} (hi : findF L fr = (i : Int)) (hj : findF L tt = -1) : Calls Tryz.prog 43 #[.pointer (some ⟨g, 0, none⟩), vS s, .int .i64 fr, .int .i64 tt, .int .i64 n] w fun e w' => e = .returned (.int .i64 270) ∧ Fr (fun _ => False) w w' := by
  have hfd := Lib.hid (fun W m (hf : Fr (fun _ => False) w W) => bFind W g L m (h.fl.keep hf) hL)
  have hm := Lib.hid (fun W (hf : Fr (fun _ => False) w W) => bMade W g L (h.fl.keep hf) hL)
  have HF := Lib.hid (Fr.refl (fun _ => False) w)
  have hfi := Lib.hid hi; have hfj := Lib.hid hj
  have hin : ((i : Int) == -1) = false := beq_eq_false_iff_ne.2 (by omega)
  clear h hL hi hj
  go_enter Tryz.func43, Tryz.ntmps43
  go_wp2_with (first
    | (go_at_call 77; refine (hfd.out _ _ HF.out).mono ?_; (first | rw [hfi.out] | rw [hfj.out]); rintro e w2 ⟨rfl, hf2⟩; have HF := Lib.hid (HF.out.trans hf2); clear hf2)
    | (go_at_call 34; refine (hm.out _ HF.out).mono ?_; rintro e w3 ⟨rfl, rfl⟩))
  go_ret
  exact ⟨rfl, HF.out⟩
set_option maxRecDepth 100000 in
set_option maxHeartbeats 16000000 in
theorem bMove_ab (w : World) (g : Nat) (TS : Nat → Prop) (L : List BV) (s : Str) (fr tt n : Int) (h : FA w g TS L) (hL : 0 < L.length) {i : Nat} (hi : findF L fr = (i : Int)) (hj : findF L tt = (i : Int)) : Calls Tryz.prog 43 #[.pointer (some ⟨g, 0, none⟩), vS s, .int .i64 fr, .int .i64 tt, .int .i64 n] w fun e w' => e = .returned (.int .i64 270) ∧ Fr (fun _ => False) w w' := by
  have hfd := Lib.hid (fun W m (hf : Fr (fun _ => False) w W) => bFind W g L m (h.fl.keep hf) hL)
  have hm := Lib.hid (fun W (hf : Fr (fun _ => False) w W) => bMade W g L (h.fl.keep hf) hL)
  have HF := Lib.hid (Fr.refl (fun _ => False) w)
  have hfi := Lib.hid hi; have hfj := Lib.hid hj
  have hin : ((i : Int) == -1) = false := beq_eq_false_iff_ne.2 (by omega)
  clear h hL hi hj
  go_enter Tryz.func43, Tryz.ntmps43
  go_wp2_with (first
    | (go_at_call 77; refine (hfd.out _ _ HF.out).mono ?_; (first | rw [hfi.out] | rw [hfj.out]); rintro e w2 ⟨rfl, hf2⟩; have HF := Lib.hid (HF.out.trans hf2); clear hf2)
    | (go_at_call 34; refine (hm.out _ HF.out).mono ?_; rintro e w3 ⟨rfl, rfl⟩))
  go_ret
  exact ⟨rfl, HF.out⟩
set_option maxRecDepth 100000 in
set_option maxHeartbeats 16000000 in
theorem bMove_arg (w : World) (g : Nat) (TS : Nat → Prop) (L : List BV) (s : Str) (fr tt n : Int) (h : FA w g TS L) (hL : 0 < L.length) {i j : Nat} (hi : findF L fr = (i : Int)) (hj : findF L tt = (j : Int)) (hij : i ≠ j) (hs : okS s) (hmy : mayF s n ≠ 0) : Calls Tryz.prog 43 #[.pointer (some ⟨g, 0, none⟩), vS s, .int .i64 fr, .int .i64 tt, .int .i64 n] w fun e w' => e = .returned (.int .i64 (mayF s n)) ∧ Fr (fun _ => False) w w' := by
  have hfd := Lib.hid (fun W m (hf : Fr (fun _ => False) w W) => bFind W g L m (h.fl.keep hf) hL)
  have hm := Lib.hid (fun W (hf : Fr (fun _ => False) w W) => bMade W g L (h.fl.keep hf) hL)
  have HF := Lib.hid (Fr.refl (fun _ => False) w)
  have hfi := Lib.hid hi; have hfj := Lib.hid hj
  have hin : ((i : Int) == -1) = false := beq_eq_false_iff_ne.2 (by omega)
  have hjn : ((j : Int) == -1) = false := beq_eq_false_iff_ne.2 (by omega)
  have hij2 : ((i : Int) == (j : Int)) = false := beq_eq_false_iff_ne.2 (by omega)
  have hMy := Lib.hid (fun W (hf : Fr (fun _ => False) w W) => bMay W g L s n (h.fl.keep hf) hL hs)
  obtain ⟨E, hE⟩ : ∃ E, mayF s n = E := ⟨_, rfl⟩
  rw [hE] at hMy hmy ⊢
  have hb : (E != 0) = true := by simpa using hmy
  clear h hL hi hj hij hs hmy hE
  go_enter Tryz.func43, Tryz.ntmps43
  go_wp2_with (first
    | (go_at_call 77; refine (hfd.out _ _ HF.out).mono ?_; (first | rw [hfi.out] | rw [hfj.out]); rintro e w2 ⟨rfl, hf2⟩; have HF := Lib.hid (HF.out.trans hf2); clear hf2)
    | (go_at_call 34; refine (hm.out _ HF.out).mono ?_; rintro e w3 ⟨rfl, rfl⟩)
    | (go_at_call 48; refine (hMy.out _ HF.out).mono ?_; rintro e w4 ⟨rfl, hf4⟩; have HF := Lib.hid (HF.out.trans hf4); clear hf4))
  go_ret
  exact ⟨rfl, HF.out⟩
set_option maxRecDepth 100000 in
set_option maxHeartbeats 16000000 in
theorem bMove_less (w : World) (g : Nat) (TS : Nat → Prop) (L : List BV) (s : Str) (fr tt n : Int) (h : FA w g TS L) (hL : 0 < L.length) {i j : Nat} (hi : findF L fr = (i : Int)) (hj : findF L tt = (j : Int)) (hij : i ≠ j) (hs : okS s) {x y : BV} (hx : L[i]? = some x) (hy : L[j]? = some y) (hwx : BW s x.e) (hwy : BW s y.e) (hmy : mayF s n = 0) (hlt : ofF x.its s < n) : Calls Tryz.prog 43 #[.pointer (some ⟨g, 0, none⟩), vS s, .int .i64 fr, .int .i64 tt, .int .i64 n] w fun e w' => e = .returned (.int .i64 51) ∧ Fr (fun _ => False) w w' := by
  have hfd := Lib.hid (fun W m (hf : Fr (fun _ => False) w W) => bFind W g L m (h.fl.keep hf) hL)
  have hm := Lib.hid (fun W (hf : Fr (fun _ => False) w W) => bMade W g L (h.fl.keep hf) hL)
  have HF := Lib.hid (Fr.refl (fun _ => False) w)
  have hfi := Lib.hid hi; have hfj := Lib.hid hj
  have hin : ((i : Int) == -1) = false := beq_eq_false_iff_ne.2 (by omega)
  have hjn : ((j : Int) == -1) = false := beq_eq_false_iff_ne.2 (by omega)
  have hij2 : ((i : Int) == (j : Int)) = false := beq_eq_false_iff_ne.2 (by omega)
  have hMy := Lib.hid (fun W (hf : Fr (fun _ => False) w W) => bMay W g L s n (h.fl.keep hf) hL hs)
  rw [hmy] at hMy
  obtain ⟨r, cap, hb⟩ := h.fb
  have hbx := h.bok (List.mem_of_getElem? hx)
  have hby := h.bok (List.mem_of_getElem? hy)
  obtain ⟨hg, hn1, hn2⟩ := mayF_zero hmy
  have hOx := Lib.hid (fun W (hf : Fr (fun _ => False) w W) => iOf W x.l x.its s ((bokKeeps hbx hf (fun _ e => e.elim)).l))
  have hOy := Lib.hid (fun W (hf : Fr (fun _ => False) w W) => iOf W y.l y.its s ((bokKeeps hby hf (fun _ e => e.elim)).l))
  have hKD := Lib.hid (fun W (hf : Fr (fun _ => False) w W) => bKind W y s (bokKeeps hby hf (fun _ e => e.elim)))
  have hLF := Lib.hid (fun W (hf : Fr (fun _ => False) w W) => bLeft W y (bokKeeps hby hf (fun _ e => e.elim)))
  have hox := hwx.of s
  have hoy := hwy.of s
  have hLO := hwy.left
  rw [show x.e.its = x.its from rfl] at hox
  rw [show y.e.its = y.its from rfl] at hoy
  have q1 := hwx.ro; have q2 := hwx.tot; have q3 := getI_nn s hwx.pos; have q4 := getI_le s hwx.pos
  have t1 := hwy.ro; have t2 := hwy.tot; have t3 := getI_nn s hwy.pos; have t4 := getI_le s hwy.pos; have t5 := sumI_nn hwy.pos
  rw [show x.e.its = x.its from rfl] at q2 q3 q4
  rw [show y.e.its = y.its from rfl] at t2 t3 t4 t5
  have hwr1 : IntKind.i64.wrap (ofF x.its s - n) = ofF x.its s - n := IntWalk.i64_in _ (by rw [hox]; omega)
  have hwr2 : IntKind.i64.wrap (ofF y.its s + n) = ofF y.its s + n := IntWalk.i64_in _ (by rw [hoy]; omega)
  have hwtx := Lib.hid (fun W (hf : Fr (fun _ => False) w W) => bWith W x s (ofF x.its s - n) (bokKeeps hbx hf (fun _ e => e.elim)) (by have h8 : x.its.length ≤ 17 := hwx.len; omega) hwx.ri hs (by rw [hox]; unfold okI; omega))
  have hwty := Lib.hid (fun W (hf : Fr (fun _ => False) w W) => bWith W y s (ofF y.its s + n) (bokKeeps hby hf (fun _ e => e.elim)) (by have h8 : y.its.length ≤ 17 := hwy.len; omega) hwy.ri hs (by rw [hoy]; unfold okI; omega))
  obtain ⟨OX, hOX⟩ : ∃ z, ofF x.its s = z := ⟨_, rfl⟩
  obtain ⟨OY, hOY⟩ : ∃ z, ofF y.its s = z := ⟨_, rfl⟩
  obtain ⟨KD, hKK⟩ : ∃ z, kindE y.e s = z := ⟨_, rfl⟩
  obtain ⟨LE, hLE⟩ : ∃ z, leftE y.e = z := ⟨_, rfl⟩
  rw [kindE_e, hKK] at hKD
  rw [leftE_e, hLE] at hLF
  rw [hOX] at hOx hwr1 hwtx
  rw [hOY] at hOy hwr2 hwty
  rw [hOX] at hlt
  have hiN := (List.getElem?_eq_some_iff.1 hx).1
  have hjN := (List.getElem?_eq_some_iff.1 hy).1
  have HX := Lib.hid hx; have HY := Lib.hid hy; have HFB := Lib.hid hb; have HOX := Lib.hid hOX; have HOY := Lib.hid hOY; have HIJ := Lib.hid hij
  obtain ⟨xn, xz, xr, xl, xi⟩ := x
  obtain ⟨yn, yz, yr, yl, yi⟩ := y
  obtain ⟨la, lc, hl⟩ := hbx.l.sl
  obtain ⟨lb, ld, hl2⟩ := hby.l.sl
  dsimp only at hl hl2
  subst hl hl2
  have hcx : BV.cs ⟨xn, xz, xr, .slice la xi.length lc, xi⟩ = #[.int .i64 xn, .int .i64 xz, .int .i64 xr, .slice la xi.length lc] := rfl
  have hcy : BV.cs ⟨yn, yz, yr, .slice lb yi.length ld, yi⟩ = #[.int .i64 yn, .int .i64 yz, .int .i64 yr, .slice lb yi.length ld] := rfl
  rw [hcy] at hKD hLF hwty
  rw [hcx] at hwtx
  dsimp only at hOx hOy
  obtain ⟨Nx, hNx⟩ : ∃ z, xi.length = z := ⟨_, rfl⟩
  obtain ⟨Ny, hNy⟩ : ∃ z, yi.length = z := ⟨_, rfl⟩
  obtain ⟨N, hN⟩ : ∃ z, L.length = z := ⟨_, rfl⟩
  have HNx := Lib.hid hNx; have HNy := Lib.hid hNy; have HN := Lib.hid hN
  rw [hNx] at hwtx hOx
  rw [hNy] at hKD hLF hwty hOy
  rw [hN] at hiN hjN
  have hiI : (i : Int) < N := by omega
  have hjI : (j : Int) < N := by omega
  have hcells : Hid (∀ W, Fr (fun _ => False) w W → W.cell? ⟨g, 0, none⟩ = some (.slice (some ⟨r, 0, none⟩) N cap) ∧ (W.cell? ⟨r, i * 4, none⟩ = some (.int .i64 xn) ∧ W.cell? ⟨r, i * 4 + 1, none⟩ = some (.int .i64 xz) ∧ W.cell? ⟨r, i * 4 + 2, none⟩ = some (.int .i64 xr) ∧ W.cell? ⟨r, i * 4 + 3, none⟩ = some (.slice la Nx lc)) ∧ (W.cell? ⟨r, j * 4, none⟩ = some (.int .i64 yn) ∧ W.cell? ⟨r, j * 4 + 1, none⟩ = some (.int .i64 yz) ∧ W.cell? ⟨r, j * 4 + 2, none⟩ = some (.int .i64 yr) ∧ W.cell? ⟨r, j * 4 + 3, none⟩ = some (.slice lb Ny ld)) ∧ ∀ q, W.frozen? ⟨r, q, none⟩ = false) := Lib.hid (fun W hf => by
    have h1 := (hb.keep hf).cells hx
    have h2 := (hb.keep hf).cells hy
    rw [hN] at h1 h2
    dsimp only at h1 h2
    rw [hNx] at h1
    rw [hNy] at h2
    exact ⟨h1.1, ⟨h1.2.1, h1.2.2.1, h1.2.2.2.1, h1.2.2.2.2.1⟩, ⟨h2.2.1, h2.2.2.1, h2.2.2.2.1, h2.2.2.2.2.1⟩, h1.2.2.2.2.2⟩)
  clear h hb hbx hby hx hy hL hi hj hij hs hwx hwy hmy hg hn1 hn2 hox hoy hLO q1 q2 q3 q4 t1 t2 t3 t4 t5 hOX hOY hKK hLE hcx hcy hNx hNy hN
  go_enter Tryz.func43, Tryz.ntmps43
  go_wp2_with (first
    | (go_at_call 77; refine (hfd.out _ _ HF.out).mono ?_; (first | rw [hfi.out] | rw [hfj.out]); rintro e w2 ⟨rfl, hf2⟩; have HF := Lib.hid (HF.out.trans hf2); clear hf2)
    | (go_at_call 34; refine (hm.out _ HF.out).mono ?_; rintro e w3 ⟨rfl, rfl⟩)
    | (go_at_call 48; refine (hMy.out _ HF.out).mono ?_; rintro e w4 ⟨rfl, hf4⟩; have HF := Lib.hid (HF.out.trans hf4); obtain ⟨c0, ⟨x0, x1, x2, x3⟩, ⟨y0, y1, y2, y3⟩, -⟩ := hcells.out w4 HF.out; have c0 := FrW.cell c0; have x0 := FrW.cell x0; have x1 := FrW.cell x1; have x2 := FrW.cell x2; have x3 := FrW.cell x3; have y0 := FrW.cell y0; have y1 := FrW.cell y1; have y2 := FrW.cell y2; have y3 := FrW.cell y3; clear hf4))
  refine wp_region_fr (by kernel_rfl) (by kernel_rfl) ?_
  repeat (go_big_quiet_step ((go_at_call 47; rename_i X; (first | (with_reducible refine (hOx.out X.val (HF.out.trans X.fr)).mono ?_) | (with_reducible refine (hOy.out X.val (HF.out.trans X.fr)).mono ?_)); rintro e w5 ⟨rfl, hF⟩; exact ⟨rfl, ⟨w5, X.fr.trans hF⟩, rfl⟩)))
  refine wpQuiet_nil ?_
  rintro V ⟨⟨_, hV⟩, rfl⟩
  have HF := Lib.hid (HF.out.trans hV)
  clear hV c0 x0 x1 x2 x3 y0 y1 y2 y3
  obtain ⟨c0, ⟨x0, x1, x2, x3⟩, ⟨y0, y1, y2, y3⟩, -⟩ := hcells.out V HF.out
  go_wp2_with fail
  go_ret
  exact ⟨rfl, HF.out⟩
set_option maxRecDepth 100000 in
set_option maxHeartbeats 16000000 in
theorem bMove_kind (w : World) (g : Nat) (TS : Nat → Prop) (L : List BV) (s : Str) (fr tt n : Int) (h : FA w g TS L) (hL : 0 < L.length) {i j : Nat} (hi : findF L fr = (i : Int)) (hj : findF L tt = (j : Int)) (hij : i ≠ j) (hs : okS s) {x y : BV} (hx : L[i]? = some x) (hy : L[j]? = some y) (hwx : BW s x.e) (hwy : BW s y.e) (hmy : mayF s n = 0) (hlt : ¬ ofF x.its s < n) (hk : kindE y.e s = 3) : Calls Tryz.prog 43 #[.pointer (some ⟨g, 0, none⟩), vS s, .int .i64 fr, .int .i64 tt, .int .i64 n] w fun e w' => e = .returned (.int .i64 2) ∧ Fr (fun _ => False) w w' := by
  have hfd := Lib.hid (fun W m (hf : Fr (fun _ => False) w W) => bFind W g L m (h.fl.keep hf) hL)
  have hm := Lib.hid (fun W (hf : Fr (fun _ => False) w W) => bMade W g L (h.fl.keep hf) hL)
  have HF := Lib.hid (Fr.refl (fun _ => False) w)
  have hfi := Lib.hid hi; have hfj := Lib.hid hj
  have hin : ((i : Int) == -1) = false := beq_eq_false_iff_ne.2 (by omega)
  have hjn : ((j : Int) == -1) = false := beq_eq_false_iff_ne.2 (by omega)
  have hij2 : ((i : Int) == (j : Int)) = false := beq_eq_false_iff_ne.2 (by omega)
  have hMy := Lib.hid (fun W (hf : Fr (fun _ => False) w W) => bMay W g L s n (h.fl.keep hf) hL hs)
  rw [hmy] at hMy
  obtain ⟨r, cap, hb⟩ := h.fb
  have hbx := h.bok (List.mem_of_getElem? hx)
  have hby := h.bok (List.mem_of_getElem? hy)
  obtain ⟨hg, hn1, hn2⟩ := mayF_zero hmy
  have hOx := Lib.hid (fun W (hf : Fr (fun _ => False) w W) => iOf W x.l x.its s ((bokKeeps hbx hf (fun _ e => e.elim)).l))
  have hOy := Lib.hid (fun W (hf : Fr (fun _ => False) w W) => iOf W y.l y.its s ((bokKeeps hby hf (fun _ e => e.elim)).l))
  have hKD := Lib.hid (fun W (hf : Fr (fun _ => False) w W) => bKind W y s (bokKeeps hby hf (fun _ e => e.elim)))
  have hLF := Lib.hid (fun W (hf : Fr (fun _ => False) w W) => bLeft W y (bokKeeps hby hf (fun _ e => e.elim)))
  have hox := hwx.of s
  have hoy := hwy.of s
  have hLO := hwy.left
  rw [show x.e.its = x.its from rfl] at hox
  rw [show y.e.its = y.its from rfl] at hoy
  have q1 := hwx.ro; have q2 := hwx.tot; have q3 := getI_nn s hwx.pos; have q4 := getI_le s hwx.pos
  have t1 := hwy.ro; have t2 := hwy.tot; have t3 := getI_nn s hwy.pos; have t4 := getI_le s hwy.pos; have t5 := sumI_nn hwy.pos
  rw [show x.e.its = x.its from rfl] at q2 q3 q4
  rw [show y.e.its = y.its from rfl] at t2 t3 t4 t5
  have hwr1 : IntKind.i64.wrap (ofF x.its s - n) = ofF x.its s - n := IntWalk.i64_in _ (by rw [hox]; omega)
  have hwr2 : IntKind.i64.wrap (ofF y.its s + n) = ofF y.its s + n := IntWalk.i64_in _ (by rw [hoy]; omega)
  have hwtx := Lib.hid (fun W (hf : Fr (fun _ => False) w W) => bWith W x s (ofF x.its s - n) (bokKeeps hbx hf (fun _ e => e.elim)) (by have h8 : x.its.length ≤ 17 := hwx.len; omega) hwx.ri hs (by rw [hox]; unfold okI; omega))
  have hwty := Lib.hid (fun W (hf : Fr (fun _ => False) w W) => bWith W y s (ofF y.its s + n) (bokKeeps hby hf (fun _ e => e.elim)) (by have h8 : y.its.length ≤ 17 := hwy.len; omega) hwy.ri hs (by rw [hoy]; unfold okI; omega))
  obtain ⟨OX, hOX⟩ : ∃ z, ofF x.its s = z := ⟨_, rfl⟩
  obtain ⟨OY, hOY⟩ : ∃ z, ofF y.its s = z := ⟨_, rfl⟩
  obtain ⟨KD, hKK⟩ : ∃ z, kindE y.e s = z := ⟨_, rfl⟩
  obtain ⟨LE, hLE⟩ : ∃ z, leftE y.e = z := ⟨_, rfl⟩
  rw [kindE_e, hKK] at hKD
  rw [leftE_e, hLE] at hLF
  rw [hOX] at hOx hwr1 hwtx
  rw [hOY] at hOy hwr2 hwty
  rw [hOX] at hlt
  rw [hKK] at hk
  subst hk
  have hiN := (List.getElem?_eq_some_iff.1 hx).1
  have hjN := (List.getElem?_eq_some_iff.1 hy).1
  have HX := Lib.hid hx; have HY := Lib.hid hy; have HFB := Lib.hid hb; have HOX := Lib.hid hOX; have HOY := Lib.hid hOY; have HIJ := Lib.hid hij
  obtain ⟨xn, xz, xr, xl, xi⟩ := x
  obtain ⟨yn, yz, yr, yl, yi⟩ := y
  obtain ⟨la, lc, hl⟩ := hbx.l.sl
  obtain ⟨lb, ld, hl2⟩ := hby.l.sl
  dsimp only at hl hl2
  subst hl hl2
  have hcx : BV.cs ⟨xn, xz, xr, .slice la xi.length lc, xi⟩ = #[.int .i64 xn, .int .i64 xz, .int .i64 xr, .slice la xi.length lc] := rfl
  have hcy : BV.cs ⟨yn, yz, yr, .slice lb yi.length ld, yi⟩ = #[.int .i64 yn, .int .i64 yz, .int .i64 yr, .slice lb yi.length ld] := rfl
  rw [hcy] at hKD hLF hwty
  rw [hcx] at hwtx
  dsimp only at hOx hOy
  obtain ⟨Nx, hNx⟩ : ∃ z, xi.length = z := ⟨_, rfl⟩
  obtain ⟨Ny, hNy⟩ : ∃ z, yi.length = z := ⟨_, rfl⟩
  obtain ⟨N, hN⟩ : ∃ z, L.length = z := ⟨_, rfl⟩
  have HNx := Lib.hid hNx; have HNy := Lib.hid hNy; have HN := Lib.hid hN
  rw [hNx] at hwtx hOx
  rw [hNy] at hKD hLF hwty hOy
  rw [hN] at hiN hjN
  have hiI : (i : Int) < N := by omega
  have hjI : (j : Int) < N := by omega
  have hcells : Hid (∀ W, Fr (fun _ => False) w W → W.cell? ⟨g, 0, none⟩ = some (.slice (some ⟨r, 0, none⟩) N cap) ∧ (W.cell? ⟨r, i * 4, none⟩ = some (.int .i64 xn) ∧ W.cell? ⟨r, i * 4 + 1, none⟩ = some (.int .i64 xz) ∧ W.cell? ⟨r, i * 4 + 2, none⟩ = some (.int .i64 xr) ∧ W.cell? ⟨r, i * 4 + 3, none⟩ = some (.slice la Nx lc)) ∧ (W.cell? ⟨r, j * 4, none⟩ = some (.int .i64 yn) ∧ W.cell? ⟨r, j * 4 + 1, none⟩ = some (.int .i64 yz) ∧ W.cell? ⟨r, j * 4 + 2, none⟩ = some (.int .i64 yr) ∧ W.cell? ⟨r, j * 4 + 3, none⟩ = some (.slice lb Ny ld)) ∧ ∀ q, W.frozen? ⟨r, q, none⟩ = false) := Lib.hid (fun W hf => by
    have h1 := (hb.keep hf).cells hx
    have h2 := (hb.keep hf).cells hy
    rw [hN] at h1 h2
    dsimp only at h1 h2
    rw [hNx] at h1
    rw [hNy] at h2
    exact ⟨h1.1, ⟨h1.2.1, h1.2.2.1, h1.2.2.2.1, h1.2.2.2.2.1⟩, ⟨h2.2.1, h2.2.2.1, h2.2.2.2.1, h2.2.2.2.2.1⟩, h1.2.2.2.2.2⟩)
  clear h hb hbx hby hx hy hL hi hj hij hs hwx hwy hmy hg hn1 hn2 hox hoy hLO q1 q2 q3 q4 t1 t2 t3 t4 t5 hOX hOY hKK hLE hcx hcy hNx hNy hN
  go_enter Tryz.func43, Tryz.ntmps43
  go_wp2_with (first
    | (go_at_call 77; refine (hfd.out _ _ HF.out).mono ?_; (first | rw [hfi.out] | rw [hfj.out]); rintro e w2 ⟨rfl, hf2⟩; have HF := Lib.hid (HF.out.trans hf2); clear hf2)
    | (go_at_call 34; refine (hm.out _ HF.out).mono ?_; rintro e w3 ⟨rfl, rfl⟩)
    | (go_at_call 48; refine (hMy.out _ HF.out).mono ?_; rintro e w4 ⟨rfl, hf4⟩; have HF := Lib.hid (HF.out.trans hf4); obtain ⟨c0, ⟨x0, x1, x2, x3⟩, ⟨y0, y1, y2, y3⟩, -⟩ := hcells.out w4 HF.out; have c0 := FrW.cell c0; have x0 := FrW.cell x0; have x1 := FrW.cell x1; have x2 := FrW.cell x2; have x3 := FrW.cell x3; have y0 := FrW.cell y0; have y1 := FrW.cell y1; have y2 := FrW.cell y2; have y3 := FrW.cell y3; clear hf4))
  refine wp_region_fr (by kernel_rfl) (by kernel_rfl) ?_
  repeat (go_big_quiet_step ((go_at_call 47; rename_i X; (first | (with_reducible refine (hOx.out X.val (HF.out.trans X.fr)).mono ?_) | (with_reducible refine (hOy.out X.val (HF.out.trans X.fr)).mono ?_)); rintro e w5 ⟨rfl, hF⟩; exact ⟨rfl, ⟨w5, X.fr.trans hF⟩, rfl⟩)))
  refine wpQuiet_nil ?_
  rintro V ⟨⟨_, hV⟩, rfl⟩
  have HF := Lib.hid (HF.out.trans hV)
  clear hV c0 x0 x1 x2 x3 y0 y1 y2 y3
  obtain ⟨c0, ⟨x0, x1, x2, x3⟩, ⟨y0, y1, y2, y3⟩, -⟩ := hcells.out V HF.out
  go_wp2_with (first
    | (go_at_call 51; refine (hKD.out _ HF.out).mono ?_; rintro e w6 ⟨rfl, hf6⟩; have HF := Lib.hid (HF.out.trans hf6); clear hf6 c0 x0 x1 x2 x3 y0 y1 y2 y3; obtain ⟨c0, ⟨x0, x1, x2, x3⟩, ⟨y0, y1, y2, y3⟩, -⟩ := hcells.out w6 HF.out)
    | (go_at_call 24; refine (hLF.out _ HF.out).mono ?_; rintro e w7 ⟨rfl, hf7⟩; have HF := Lib.hid (HF.out.trans hf7); clear hf7 c0 x0 x1 x2 x3 y0 y1 y2 y3; obtain ⟨c0, ⟨x0, x1, x2, x3⟩, ⟨y0, y1, y2, y3⟩, -⟩ := hcells.out w7 HF.out))
  go_ret
  exact ⟨rfl, HF.out⟩
set_option maxRecDepth 100000 in
set_option maxHeartbeats 16000000 in
theorem bMove_left (w : World) (g : Nat) (TS : Nat → Prop) (L : List BV) (s : Str) (fr tt n : Int) (h : FA w g TS L) (hL : 0 < L.length) {i j : Nat} (hi : findF L fr = (i : Int)) (hj : findF L tt = (j : Int)) (hij : i ≠ j) (hs : okS s) {x y : BV} (hx : L[i]? = some x) (hy : L[j]? = some y) (hwx : BW s x.e) (hwy : BW s y.e) (hmy : mayF s n = 0) (hlt : ¬ ofF x.its s < n) (hk : kindE y.e s ≠ 3) (hlf : leftE y.e < n) : Calls Tryz.prog 43 #[.pointer (some ⟨g, 0, none⟩), vS s, .int .i64 fr, .int .i64 tt, .int .i64 n] w fun e w' => e = .returned (.int .i64 2) ∧ Fr (fun _ => False) w w' := by
  have hfd := Lib.hid (fun W m (hf : Fr (fun _ => False) w W) => bFind W g L m (h.fl.keep hf) hL)
  have hm := Lib.hid (fun W (hf : Fr (fun _ => False) w W) => bMade W g L (h.fl.keep hf) hL)
  have HF := Lib.hid (Fr.refl (fun _ => False) w)
  have hfi := Lib.hid hi; have hfj := Lib.hid hj
  have hin : ((i : Int) == -1) = false := beq_eq_false_iff_ne.2 (by omega)
  have hjn : ((j : Int) == -1) = false := beq_eq_false_iff_ne.2 (by omega)
  have hij2 : ((i : Int) == (j : Int)) = false := beq_eq_false_iff_ne.2 (by omega)
  have hMy := Lib.hid (fun W (hf : Fr (fun _ => False) w W) => bMay W g L s n (h.fl.keep hf) hL hs)
  rw [hmy] at hMy
  obtain ⟨r, cap, hb⟩ := h.fb
  have hbx := h.bok (List.mem_of_getElem? hx)
  have hby := h.bok (List.mem_of_getElem? hy)
  obtain ⟨hg, hn1, hn2⟩ := mayF_zero hmy
  have hOx := Lib.hid (fun W (hf : Fr (fun _ => False) w W) => iOf W x.l x.its s ((bokKeeps hbx hf (fun _ e => e.elim)).l))
  have hOy := Lib.hid (fun W (hf : Fr (fun _ => False) w W) => iOf W y.l y.its s ((bokKeeps hby hf (fun _ e => e.elim)).l))
  have hKD := Lib.hid (fun W (hf : Fr (fun _ => False) w W) => bKind W y s (bokKeeps hby hf (fun _ e => e.elim)))
  have hLF := Lib.hid (fun W (hf : Fr (fun _ => False) w W) => bLeft W y (bokKeeps hby hf (fun _ e => e.elim)))
  have hox := hwx.of s
  have hoy := hwy.of s
  have hLO := hwy.left
  rw [show x.e.its = x.its from rfl] at hox
  rw [show y.e.its = y.its from rfl] at hoy
  have q1 := hwx.ro; have q2 := hwx.tot; have q3 := getI_nn s hwx.pos; have q4 := getI_le s hwx.pos
  have t1 := hwy.ro; have t2 := hwy.tot; have t3 := getI_nn s hwy.pos; have t4 := getI_le s hwy.pos; have t5 := sumI_nn hwy.pos
  rw [show x.e.its = x.its from rfl] at q2 q3 q4
  rw [show y.e.its = y.its from rfl] at t2 t3 t4 t5
  have hwr1 : IntKind.i64.wrap (ofF x.its s - n) = ofF x.its s - n := IntWalk.i64_in _ (by rw [hox]; omega)
  have hwr2 : IntKind.i64.wrap (ofF y.its s + n) = ofF y.its s + n := IntWalk.i64_in _ (by rw [hoy]; omega)
  have hwtx := Lib.hid (fun W (hf : Fr (fun _ => False) w W) => bWith W x s (ofF x.its s - n) (bokKeeps hbx hf (fun _ e => e.elim)) (by have h8 : x.its.length ≤ 17 := hwx.len; omega) hwx.ri hs (by rw [hox]; unfold okI; omega))
  have hwty := Lib.hid (fun W (hf : Fr (fun _ => False) w W) => bWith W y s (ofF y.its s + n) (bokKeeps hby hf (fun _ e => e.elim)) (by have h8 : y.its.length ≤ 17 := hwy.len; omega) hwy.ri hs (by rw [hoy]; unfold okI; omega))
  obtain ⟨OX, hOX⟩ : ∃ z, ofF x.its s = z := ⟨_, rfl⟩
  obtain ⟨OY, hOY⟩ : ∃ z, ofF y.its s = z := ⟨_, rfl⟩
  obtain ⟨KD, hKK⟩ : ∃ z, kindE y.e s = z := ⟨_, rfl⟩
  obtain ⟨LE, hLE⟩ : ∃ z, leftE y.e = z := ⟨_, rfl⟩
  rw [kindE_e, hKK] at hKD
  rw [leftE_e, hLE] at hLF
  rw [hOX] at hOx hwr1 hwtx
  rw [hOY] at hOy hwr2 hwty
  rw [hOX] at hlt
  rw [hKK] at hk
  rw [hLE] at hlf
  have hkb : (KD == 3) = false := by simpa using hk
  clear hk
  have hiN := (List.getElem?_eq_some_iff.1 hx).1
  have hjN := (List.getElem?_eq_some_iff.1 hy).1
  have HX := Lib.hid hx; have HY := Lib.hid hy; have HFB := Lib.hid hb; have HOX := Lib.hid hOX; have HOY := Lib.hid hOY; have HIJ := Lib.hid hij
  obtain ⟨xn, xz, xr, xl, xi⟩ := x
  obtain ⟨yn, yz, yr, yl, yi⟩ := y
  obtain ⟨la, lc, hl⟩ := hbx.l.sl
  obtain ⟨lb, ld, hl2⟩ := hby.l.sl
  dsimp only at hl hl2
  subst hl hl2
  have hcx : BV.cs ⟨xn, xz, xr, .slice la xi.length lc, xi⟩ = #[.int .i64 xn, .int .i64 xz, .int .i64 xr, .slice la xi.length lc] := rfl
  have hcy : BV.cs ⟨yn, yz, yr, .slice lb yi.length ld, yi⟩ = #[.int .i64 yn, .int .i64 yz, .int .i64 yr, .slice lb yi.length ld] := rfl
  rw [hcy] at hKD hLF hwty
  rw [hcx] at hwtx
  dsimp only at hOx hOy
  obtain ⟨Nx, hNx⟩ : ∃ z, xi.length = z := ⟨_, rfl⟩
  obtain ⟨Ny, hNy⟩ : ∃ z, yi.length = z := ⟨_, rfl⟩
  obtain ⟨N, hN⟩ : ∃ z, L.length = z := ⟨_, rfl⟩
  have HNx := Lib.hid hNx; have HNy := Lib.hid hNy; have HN := Lib.hid hN
  rw [hNx] at hwtx hOx
  rw [hNy] at hKD hLF hwty hOy
  rw [hN] at hiN hjN
  have hiI : (i : Int) < N := by omega
  have hjI : (j : Int) < N := by omega
  have hcells : Hid (∀ W, Fr (fun _ => False) w W → W.cell? ⟨g, 0, none⟩ = some (.slice (some ⟨r, 0, none⟩) N cap) ∧ (W.cell? ⟨r, i * 4, none⟩ = some (.int .i64 xn) ∧ W.cell? ⟨r, i * 4 + 1, none⟩ = some (.int .i64 xz) ∧ W.cell? ⟨r, i * 4 + 2, none⟩ = some (.int .i64 xr) ∧ W.cell? ⟨r, i * 4 + 3, none⟩ = some (.slice la Nx lc)) ∧ (W.cell? ⟨r, j * 4, none⟩ = some (.int .i64 yn) ∧ W.cell? ⟨r, j * 4 + 1, none⟩ = some (.int .i64 yz) ∧ W.cell? ⟨r, j * 4 + 2, none⟩ = some (.int .i64 yr) ∧ W.cell? ⟨r, j * 4 + 3, none⟩ = some (.slice lb Ny ld)) ∧ ∀ q, W.frozen? ⟨r, q, none⟩ = false) := Lib.hid (fun W hf => by
    have h1 := (hb.keep hf).cells hx
    have h2 := (hb.keep hf).cells hy
    rw [hN] at h1 h2
    dsimp only at h1 h2
    rw [hNx] at h1
    rw [hNy] at h2
    exact ⟨h1.1, ⟨h1.2.1, h1.2.2.1, h1.2.2.2.1, h1.2.2.2.2.1⟩, ⟨h2.2.1, h2.2.2.1, h2.2.2.2.1, h2.2.2.2.2.1⟩, h1.2.2.2.2.2⟩)
  clear h hb hbx hby hx hy hL hi hj hij hs hwx hwy hmy hg hn1 hn2 hox hoy hLO q1 q2 q3 q4 t1 t2 t3 t4 t5 hOX hOY hKK hLE hcx hcy hNx hNy hN
  go_enter Tryz.func43, Tryz.ntmps43
  go_wp2_with (first
    | (go_at_call 77; refine (hfd.out _ _ HF.out).mono ?_; (first | rw [hfi.out] | rw [hfj.out]); rintro e w2 ⟨rfl, hf2⟩; have HF := Lib.hid (HF.out.trans hf2); clear hf2)
    | (go_at_call 34; refine (hm.out _ HF.out).mono ?_; rintro e w3 ⟨rfl, rfl⟩)
    | (go_at_call 48; refine (hMy.out _ HF.out).mono ?_; rintro e w4 ⟨rfl, hf4⟩; have HF := Lib.hid (HF.out.trans hf4); obtain ⟨c0, ⟨x0, x1, x2, x3⟩, ⟨y0, y1, y2, y3⟩, -⟩ := hcells.out w4 HF.out; have c0 := FrW.cell c0; have x0 := FrW.cell x0; have x1 := FrW.cell x1; have x2 := FrW.cell x2; have x3 := FrW.cell x3; have y0 := FrW.cell y0; have y1 := FrW.cell y1; have y2 := FrW.cell y2; have y3 := FrW.cell y3; clear hf4))
  refine wp_region_fr (by kernel_rfl) (by kernel_rfl) ?_
  repeat (go_big_quiet_step ((go_at_call 47; rename_i X; (first | (with_reducible refine (hOx.out X.val (HF.out.trans X.fr)).mono ?_) | (with_reducible refine (hOy.out X.val (HF.out.trans X.fr)).mono ?_)); rintro e w5 ⟨rfl, hF⟩; exact ⟨rfl, ⟨w5, X.fr.trans hF⟩, rfl⟩)))
  refine wpQuiet_nil ?_
  rintro V ⟨⟨_, hV⟩, rfl⟩
  have HF := Lib.hid (HF.out.trans hV)
  clear hV c0 x0 x1 x2 x3 y0 y1 y2 y3
  obtain ⟨c0, ⟨x0, x1, x2, x3⟩, ⟨y0, y1, y2, y3⟩, -⟩ := hcells.out V HF.out
  go_wp2_with (first
    | (go_at_call 51; refine (hKD.out _ HF.out).mono ?_; rintro e w6 ⟨rfl, hf6⟩; have HF := Lib.hid (HF.out.trans hf6); clear hf6 c0 x0 x1 x2 x3 y0 y1 y2 y3; obtain ⟨c0, ⟨x0, x1, x2, x3⟩, ⟨y0, y1, y2, y3⟩, -⟩ := hcells.out w6 HF.out)
    | (go_at_call 24; refine (hLF.out _ HF.out).mono ?_; rintro e w7 ⟨rfl, hf7⟩; have HF := Lib.hid (HF.out.trans hf7); clear hf7 c0 x0 x1 x2 x3 y0 y1 y2 y3; obtain ⟨c0, ⟨x0, x1, x2, x3⟩, ⟨y0, y1, y2, y3⟩, -⟩ := hcells.out w7 HF.out))
  go_ret
  exact ⟨rfl, HF.out⟩
set_option maxRecDepth 100000 in
set_option maxHeartbeats 16000000 in
theorem bMove_ok (w : World) (g : Nat) (TS : Nat → Prop) (L : List BV) (s : Str) (fr tt n : Int) (h : FA w g TS L) (hL : 0 < L.length) {i j : Nat} (hi : findF L fr = (i : Int)) (hj : findF L tt = (j : Int)) (hij : i ≠ j) (hs : okS s) {x y : BV} (hx : L[i]? = some x) (hy : L[j]? = some y) (hwx : BW s x.e) (hwy : BW s y.e) (hmy : mayF s n = 0) (hlt : ¬ ofF x.its s < n) (hk : kindE y.e s ≠ 3) (hlf : ¬ leftE y.e < n) : Calls Tryz.prog 43 #[.pointer (some ⟨g, 0, none⟩), vS s, .int .i64 fr, .int .i64 tt, .int .i64 n] w fun e w' => MvP w g TS (0, ((L.map BV.e).set i (x.e.put s (ofF x.its s - n))).set j (y.e.put s (ofF y.its s + n))) e w' := by
  have hfd := Lib.hid (fun W m (hf : Fr (fun _ => False) w W) => bFind W g L m (h.fl.keep hf) hL)
  have hm := Lib.hid (fun W (hf : Fr (fun _ => False) w W) => bMade W g L (h.fl.keep hf) hL)
  have HF := Lib.hid (Fr.refl (fun _ => False) w)
  have hfi := Lib.hid hi; have hfj := Lib.hid hj
  have hin : ((i : Int) == -1) = false := beq_eq_false_iff_ne.2 (by omega)
  have hjn : ((j : Int) == -1) = false := beq_eq_false_iff_ne.2 (by omega)
  have hij2 : ((i : Int) == (j : Int)) = false := beq_eq_false_iff_ne.2 (by omega)
  have hMy := Lib.hid (fun W (hf : Fr (fun _ => False) w W) => bMay W g L s n (h.fl.keep hf) hL hs)
  rw [hmy] at hMy
  obtain ⟨r, cap, hb⟩ := h.fb
  have hbx := h.bok (List.mem_of_getElem? hx)
  have hby := h.bok (List.mem_of_getElem? hy)
  obtain ⟨hg, hn1, hn2⟩ := mayF_zero hmy
  have hOx := Lib.hid (fun W (hf : Fr (fun _ => False) w W) => iOf W x.l x.its s ((bokKeeps hbx hf (fun _ e => e.elim)).l))
  have hOy := Lib.hid (fun W (hf : Fr (fun _ => False) w W) => iOf W y.l y.its s ((bokKeeps hby hf (fun _ e => e.elim)).l))
  have hKD := Lib.hid (fun W (hf : Fr (fun _ => False) w W) => bKind W y s (bokKeeps hby hf (fun _ e => e.elim)))
  have hLF := Lib.hid (fun W (hf : Fr (fun _ => False) w W) => bLeft W y (bokKeeps hby hf (fun _ e => e.elim)))
  have hox := hwx.of s
  have hoy := hwy.of s
  have hLO := hwy.left
  rw [show x.e.its = x.its from rfl] at hox
  rw [show y.e.its = y.its from rfl] at hoy
  have q1 := hwx.ro; have q2 := hwx.tot; have q3 := getI_nn s hwx.pos; have q4 := getI_le s hwx.pos
  have t1 := hwy.ro; have t2 := hwy.tot; have t3 := getI_nn s hwy.pos; have t4 := getI_le s hwy.pos; have t5 := sumI_nn hwy.pos
  rw [show x.e.its = x.its from rfl] at q2 q3 q4
  rw [show y.e.its = y.its from rfl] at t2 t3 t4 t5
  have hwr1 : IntKind.i64.wrap (ofF x.its s - n) = ofF x.its s - n := IntWalk.i64_in _ (by rw [hox]; omega)
  have hwr2 : IntKind.i64.wrap (ofF y.its s + n) = ofF y.its s + n := IntWalk.i64_in _ (by rw [hoy]; omega)
  have hwtx := Lib.hid (fun W (hf : Fr (fun _ => False) w W) => bWith W x s (ofF x.its s - n) (bokKeeps hbx hf (fun _ e => e.elim)) (by have h8 : x.its.length ≤ 17 := hwx.len; omega) hwx.ri hs (by rw [hox]; unfold okI; omega))
  have hwty := Lib.hid (fun W (hf : Fr (fun _ => False) w W) => bWith W y s (ofF y.its s + n) (bokKeeps hby hf (fun _ e => e.elim)) (by have h8 : y.its.length ≤ 17 := hwy.len; omega) hwy.ri hs (by rw [hoy]; unfold okI; omega))
  obtain ⟨OX, hOX⟩ : ∃ z, ofF x.its s = z := ⟨_, rfl⟩
  obtain ⟨OY, hOY⟩ : ∃ z, ofF y.its s = z := ⟨_, rfl⟩
  obtain ⟨KD, hKK⟩ : ∃ z, kindE y.e s = z := ⟨_, rfl⟩
  obtain ⟨LE, hLE⟩ : ∃ z, leftE y.e = z := ⟨_, rfl⟩
  rw [kindE_e, hKK] at hKD
  rw [leftE_e, hLE] at hLF
  rw [hOX] at hOx hwr1 hwtx
  rw [hOY] at hOy hwr2 hwty
  rw [hOX] at hlt
  rw [hKK] at hk
  rw [hLE] at hlf
  have hkb : (KD == 3) = false := by simpa using hk
  clear hk
  have hiN := (List.getElem?_eq_some_iff.1 hx).1
  have hjN := (List.getElem?_eq_some_iff.1 hy).1
  have HX := Lib.hid hx; have HY := Lib.hid hy; have HFB := Lib.hid hb; have HOX := Lib.hid hOX; have HOY := Lib.hid hOY; have HIJ := Lib.hid hij
  obtain ⟨xn, xz, xr, xl, xi⟩ := x
  obtain ⟨yn, yz, yr, yl, yi⟩ := y
  obtain ⟨la, lc, hl⟩ := hbx.l.sl
  obtain ⟨lb, ld, hl2⟩ := hby.l.sl
  dsimp only at hl hl2
  subst hl hl2
  have hcx : BV.cs ⟨xn, xz, xr, .slice la xi.length lc, xi⟩ = #[.int .i64 xn, .int .i64 xz, .int .i64 xr, .slice la xi.length lc] := rfl
  have hcy : BV.cs ⟨yn, yz, yr, .slice lb yi.length ld, yi⟩ = #[.int .i64 yn, .int .i64 yz, .int .i64 yr, .slice lb yi.length ld] := rfl
  rw [hcy] at hKD hLF hwty
  rw [hcx] at hwtx
  dsimp only at hOx hOy
  obtain ⟨Nx, hNx⟩ : ∃ z, xi.length = z := ⟨_, rfl⟩
  obtain ⟨Ny, hNy⟩ : ∃ z, yi.length = z := ⟨_, rfl⟩
  obtain ⟨N, hN⟩ : ∃ z, L.length = z := ⟨_, rfl⟩
  have HNx := Lib.hid hNx; have HNy := Lib.hid hNy; have HN := Lib.hid hN
  rw [hNx] at hwtx hOx
  rw [hNy] at hKD hLF hwty hOy
  rw [hN] at hiN hjN
  have hiI : (i : Int) < N := by omega
  have hjI : (j : Int) < N := by omega
  have hcells : Hid (∀ W, Fr (fun _ => False) w W → W.cell? ⟨g, 0, none⟩ = some (.slice (some ⟨r, 0, none⟩) N cap) ∧ (W.cell? ⟨r, i * 4, none⟩ = some (.int .i64 xn) ∧ W.cell? ⟨r, i * 4 + 1, none⟩ = some (.int .i64 xz) ∧ W.cell? ⟨r, i * 4 + 2, none⟩ = some (.int .i64 xr) ∧ W.cell? ⟨r, i * 4 + 3, none⟩ = some (.slice la Nx lc)) ∧ (W.cell? ⟨r, j * 4, none⟩ = some (.int .i64 yn) ∧ W.cell? ⟨r, j * 4 + 1, none⟩ = some (.int .i64 yz) ∧ W.cell? ⟨r, j * 4 + 2, none⟩ = some (.int .i64 yr) ∧ W.cell? ⟨r, j * 4 + 3, none⟩ = some (.slice lb Ny ld)) ∧ ∀ q, W.frozen? ⟨r, q, none⟩ = false) := Lib.hid (fun W hf => by
    have h1 := (hb.keep hf).cells hx
    have h2 := (hb.keep hf).cells hy
    rw [hN] at h1 h2
    dsimp only at h1 h2
    rw [hNx] at h1
    rw [hNy] at h2
    exact ⟨h1.1, ⟨h1.2.1, h1.2.2.1, h1.2.2.2.1, h1.2.2.2.2.1⟩, ⟨h2.2.1, h2.2.2.1, h2.2.2.2.1, h2.2.2.2.2.1⟩, h1.2.2.2.2.2⟩)
  clear h hb hbx hby hx hy hL hi hj hij hs hwx hwy hmy hg hn1 hn2 hox hoy hLO q1 q2 q3 q4 t1 t2 t3 t4 t5 hOX hOY hKK hLE hcx hcy hNx hNy hN
  go_enter Tryz.func43, Tryz.ntmps43
  go_wp2_with (first
    | (go_at_call 77; refine (hfd.out _ _ HF.out).mono ?_; (first | rw [hfi.out] | rw [hfj.out]); rintro e w2 ⟨rfl, hf2⟩; have HF := Lib.hid (HF.out.trans hf2); clear hf2)
    | (go_at_call 34; refine (hm.out _ HF.out).mono ?_; rintro e w3 ⟨rfl, rfl⟩)
    | (go_at_call 48; refine (hMy.out _ HF.out).mono ?_; rintro e w4 ⟨rfl, hf4⟩; have HF := Lib.hid (HF.out.trans hf4); obtain ⟨c0, ⟨x0, x1, x2, x3⟩, ⟨y0, y1, y2, y3⟩, -⟩ := hcells.out w4 HF.out; have c0 := FrW.cell c0; have x0 := FrW.cell x0; have x1 := FrW.cell x1; have x2 := FrW.cell x2; have x3 := FrW.cell x3; have y0 := FrW.cell y0; have y1 := FrW.cell y1; have y2 := FrW.cell y2; have y3 := FrW.cell y3; clear hf4))
  refine wp_region_fr (by kernel_rfl) (by kernel_rfl) ?_
  repeat (go_big_quiet_step ((go_at_call 47; rename_i X; (first | (with_reducible refine (hOx.out X.val (HF.out.trans X.fr)).mono ?_) | (with_reducible refine (hOy.out X.val (HF.out.trans X.fr)).mono ?_)); rintro e w5 ⟨rfl, hF⟩; exact ⟨rfl, ⟨w5, X.fr.trans hF⟩, rfl⟩)))
  refine wpQuiet_nil ?_
  rintro V ⟨⟨_, hV⟩, rfl⟩
  have HF := Lib.hid (HF.out.trans hV)
  clear hV c0 x0 x1 x2 x3 y0 y1 y2 y3
  obtain ⟨c0, ⟨x0, x1, x2, x3⟩, ⟨y0, y1, y2, y3⟩, -⟩ := hcells.out V HF.out
  go_wp2_with (first
    | (go_at_call 51; refine (hKD.out _ HF.out).mono ?_; rintro e w6 ⟨rfl, hf6⟩; have HF := Lib.hid (HF.out.trans hf6); clear hf6 c0 x0 x1 x2 x3 y0 y1 y2 y3; obtain ⟨c0, ⟨x0, x1, x2, x3⟩, ⟨y0, y1, y2, y3⟩, -⟩ := hcells.out w6 HF.out)
    | (go_at_call 24; refine (hLF.out _ HF.out).mono ?_; rintro e w7 ⟨rfl, hf7⟩; have HF := Lib.hid (HF.out.trans hf7); clear hf7 c0 x0 x1 x2 x3 y0 y1 y2 y3; obtain ⟨c0, ⟨x0, x1, x2, x3⟩, ⟨y0, y1, y2, y3⟩, -⟩ := hcells.out w7 HF.out))
  refine wp_region_eff [(21, true), (33, true), (35, false), (37, false)] [5, 6, 7, 9, 22, 23, 24, 26, 27, 29, 30, 31, 32, 36] 0 (by kernel_rfl) rfl (by kernel_rfl) (by kernel_rfl) ?_
  apply Exists.intro
  refine ⟨?hh, ?pu, ?ef⟩
  case hh =>
    intro X
    have c0 := FrW.cell (X.fr.cell c0 (fun e => e)); have x0 := FrW.cell (X.fr.cell x0 (fun e => e)); have x1 := FrW.cell (X.fr.cell x1 (fun e => e)); have x2 := FrW.cell (X.fr.cell x2 (fun e => e)); have x3 := FrW.cell (X.fr.cell x3 (fun e => e)); have y0 := FrW.cell (X.fr.cell y0 (fun e => e)); have y1 := FrW.cell (X.fr.cell y1 (fun e => e)); have y2 := FrW.cell (X.fr.cell y2 (fun e => e)); have y3 := FrW.cell (X.fr.cell y3 (fun e => e))
    simp (config := { decide := true }) only [boxedF, efIdx, List.map_cons, List.map_nil, idleU, if_true, if_false, ite_true, ite_false]
    repeat (go_big_quiet_step (fail))
    exact wpQuiet_nil rfl
  case pu =>
    intro i' hi' o ho
    simp only [List.mem_cons, List.not_mem_nil, or_false] at hi'
    rcases hi' with rfl | rfl | rfl | rfl | rfl | rfl | rfl | rfl | rfl | rfl | rfl | rfl | rfl | rfl
    all_goals
      cases ho
      apply Exists.intro
      intro w'
      simp [execOp, Act.eval, go_sem, hiN, hjN]
      try exact rfl
  case ef =>
    simp only [efOps, List.filterMap_cons, List.filterMap_nil, List.getElem?_cons_succ, List.getElem?_cons_zero, Option.map_some]
    clear c0 x0 x1 x2 x3 y0 y1 y2 y3
    have HF7 := HF
    intro w8 hw8
    go_wp2_with (go_at_call 56; (with_reducible refine (hwtx.out _ (HF.out.trans hw8)).mono ?_); rintro e w9 ⟨vx, rfl, hbx9, hvx9, hf9⟩; dsimp only [BV.put, BV.cs]; obtain ⟨va, vc, hve⟩ := hbx9.l.sl; dsimp only [BV.put] at hve; subst hve; have HBX9 := Lib.hid hbx9; have HVX9 := Lib.hid hvx9; have HF9 := Lib.hid hf9; clear hbx9 hvx9 hf9)
    refine ⟨HF9.out, ?_⟩
    intro w10 hw10
    go_wp2_with (go_at_call 56; (with_reducible refine (hwty.out _ (HF.out.trans (hw8.trans (HF9.out.trans hw10)))).mono ?_); rintro e w11 ⟨vy, rfl, hby11, hvy11, hf11⟩; dsimp only [BV.put, BV.cs]; obtain ⟨ua, uc, hue⟩ := hby11.l.sl; dsimp only [BV.put] at hue; subst hue; have HBY := Lib.hid hby11; have HVY := Lib.hid hvy11; have HF11 := Lib.hid hf11; clear hby11 hvy11 hf11)
    refine ⟨HF11.out, ?_⟩
    intro w12 hw12
    have hF12 : Fr (fun _ => False) w w12 := HF.out.trans (hw8.trans (HF9.out.trans (hw10.trans (HF11.out.trans hw12))))
    have HF12 := Lib.hid hF12
    obtain ⟨k0, ⟨x0, x1, x2, x3⟩, -, kf⟩ := hcells.out w12 hF12
    have f0 := kf (i * 4); have f1 := kf (i * 4 + 1); have f2 := kf (i * 4 + 2); have f3 := kf (i * 4 + 3)
    have s8 := (HF.out.trans hw8).size
    have s10 := (HF.out.trans (hw8.trans (HF9.out.trans hw10))).size
    have hlow : ∀ c, (Value.slice va (setF xi s (OX - n)).length vc).ownBlock = some c → w.heap.size ≤ c := fun c hc => by have := HVX9.out c hc; omega
    have hlow2 : ∀ c, (Value.slice ua (setF yi s (OY + n)).length uc).ownBlock = some c → w.heap.size ≤ c := fun c hc => by have := HVY.out c hc; omega
    have bx12 := HBX9.out.keep (hw10.trans (HF11.out.trans hw12)) (fun _ _ _ e => e)
    have by12 := HBY.out.keep hw12 (fun _ _ _ e => e)
    have hFB := (HFB.out.keep hF12).mono (T2 := fun c => TS c ∨ w.heap.size ≤ c ∧ c < w12.heap.size) (fun _ h => .inl h) (fun b hb => by rcases hb with h | h; (have := HFB.out.lt b h; have := hF12.size; omega); omega)
    have HFB12 := Lib.hid hFB; have BX12 := Lib.hid bx12; have BY12 := Lib.hid by12; have HLOW := Lib.hid hlow; have HLOW2 := Lib.hid hlow2
    clear kf hFB bx12 by12 hlow hlow2 s8 s10 hF12
    go_wp2_with fail
    have hgr : g < w.heap.size ∧ r < w.heap.size := ⟨HFB.out.lt _ HFB.out.own.1, HFB.out.lt _ HFB.out.own.2.1⟩
    have HGR := Lib.hid hgr
    obtain ⟨hfb, hfr⟩ := HFB12.out.set2 (i := i) (b := BV.put ⟨xn, xz, xr, .slice la xi.length lc, xi⟩ (.slice va (setF xi s (OX - n)).length vc) s (OX - n)) HX.out BX12.out (fun hne c hc => ⟨.inr ⟨HLOW.out c hc, BX12.out.l.lt hne c hc⟩, by have := HLOW.out c hc; omega, by have := HLOW.out c hc; omega⟩)
    obtain ⟨W13, hW13⟩ : ∃ W, w12.setCells r (i * 4) (BV.cs (BV.put ⟨xn, xz, xr, .slice la xi.length lc, xi⟩ (.slice va (setF xi s (OX - n)).length vc) s (OX - n))).toList = W := ⟨_, rfl⟩
    have hW13' : ((((w12.setCell ⟨r, i * 4, none⟩ (.int .i64 xn)).setCell ⟨r, i * 4 + 1, none⟩ (.int .i64 xz)).setCell ⟨r, i * 4 + 2, none⟩ (.int .i64 xr)).setCell ⟨r, i * 4 + 3, none⟩ (.slice va (setF xi s (OX - n)).length vc)) = W13 := hW13
    rw [hW13] at hfb hfr
    rw [hW13']
    have HFB13 := Lib.hid hfb; have HFR13 := Lib.hid hfr
    clear hfb hfr hW13 hW13' k0 x0 x1 x2 x3 f0 f1 f2 f3 hgr
    intro w14 hw14
    have hyL : (L.set i (BV.put ⟨xn, xz, xr, .slice la xi.length lc, xi⟩ (.slice va (setF xi s (OX - n)).length vc) s (OX - n)))[j]? = some ⟨yn, yz, yr, .slice lb yi.length ld, yi⟩ := by rw [List.getElem?_set_ne HIJ.out]; exact HY.out
    obtain ⟨k0, y0, y1, y2, y3, kf⟩ := (HFB13.out.keep hw14).cells hyL
    dsimp only at y0 y1 y2 y3
    rw [HNy.out] at y3
    have f0 := kf (j * 4); have f1 := kf (j * 4 + 1); have f2 := kf (j * 4 + 2); have f3 := kf (j * 4 + 3)
    have HW14 := Lib.hid hw14; have HYL := Lib.hid hyL
    have BY14 := Lib.hid ((BY12.out.keep HFR13.out (fun _ c hc e => by have := HLOW2.out c hc; have := HGR.out; omega)).keep hw14 (fun _ _ _ e => e))
    clear kf hyL k0
    go_wp2_with fail
    obtain ⟨hfb, hfr⟩ := (HFB13.out.keep HW14.out).set2 (i := j) (b := BV.put ⟨yn, yz, yr, .slice lb yi.length ld, yi⟩ (.slice ua (setF yi s (OY + n)).length uc) s (OY + n)) HYL.out BY14.out (fun hne c hc => ⟨.inr ⟨HLOW2.out c hc, BY12.out.l.lt hne c hc⟩, by have := HLOW2.out c hc; have := HGR.out; omega, by have := HLOW2.out c hc; have := HGR.out; omega⟩)
    obtain ⟨W15, hW15⟩ : ∃ W, w14.setCells r (j * 4) (BV.cs (BV.put ⟨yn, yz, yr, .slice lb yi.length ld, yi⟩ (.slice ua (setF yi s (OY + n)).length uc) s (OY + n))).toList = W := ⟨_, rfl⟩
    have hW15' : ((((w14.setCell ⟨r, j * 4, none⟩ (.int .i64 yn)).setCell ⟨r, j * 4 + 1, none⟩ (.int .i64 yz)).setCell ⟨r, j * 4 + 2, none⟩ (.int .i64 yr)).setCell ⟨r, j * 4 + 3, none⟩ (.slice ua (setF yi s (OY + n)).length uc)) = W15 := hW15
    rw [hW15] at hfb hfr
    rw [hW15']
    have HFB15 := Lib.hid hfb; have HFR15 := Lib.hid hfr
    clear hfb hfr hW15 hW15' y0 y1 y2 y3 f0 f1 f2 f3
    intro w16 hw16
    have HW16 := Lib.hid hw16
    clear hw16
    go_wp2_with fail
    go_ret
    have e1 := HOX.out
    have e2 := HOY.out
    refine ⟨rfl, _, _, (HFB15.out.keep HW16.out).fa, ?_, ⟨?_, fun c hc => hc.imp id (fun h => h.1)⟩⟩
    · dsimp only at e1 e2 ⊢
      rw [e1, e2, List.map_set, List.map_set]
      rfl
    · have hr1 : ∀ c, c < w.heap.size → c = r → TS c := fun c _ e => by rw [e]; exact HFB.out.own.2.1
      exact (((HF12.out.mono (fun _ _ e => e.elim)).trans' HFR13.out hr1).trans' HW14.out (fun _ _ e => e.elim)).trans' HFR15.out hr1 |>.trans' HW16.out (fun _ _ e => e.elim)
theorem bMove (w : World) (g : Nat) (TS : Nat → Prop) (L : List BV) (s : Str) (fr tt n : Int) (h : FA w g TS L) (hok : ∀ x ∈ L.map BV.e, BEok x) (hL : 0 < L.length) (hs : okS s) :
    Calls Tryz.prog 43 #[.pointer (some ⟨g, 0, none⟩), vS s, .int .i64 fr, .int .i64 tt, .int .i64 n] w fun e w' => MvP w g TS (moveE (L.map BV.e) s fr tt n) e w' := by
  unfold moveE
  rw [find_map, find_map]
  have fin : ∀ m (e : Ending) w', (e = .returned (.int .i64 m) ∧ Fr (fun _ => False) w w') → MvP w g TS (m, L.map BV.e) e w' := fun m e w' ⟨he, hf⟩ => by rw [he]; exact MvP.same h hf
  cases hi : L.findIdx? (fun b => decide (b.nu = fr)) with
  | none => exact (bMove_a w g TS L s fr tt n h hL (findF_none hi) rfl).mono (fin 270)
  | some i =>
    cases hj : L.findIdx? (fun b => decide (b.nu = tt)) with
    | none => exact (bMove_b w g TS L s fr tt n h hL (findF_some hi) (findF_none hj)).mono (fin 270)
    | some j =>
      dsimp only
      by_cases hij : i = j
      · rw [if_pos hij]
        subst hij
        exact (bMove_ab w g TS L s fr tt n h hL (findF_some hi) (findF_some hj)).mono (fin 270)
      · rw [if_neg hij]
        by_cases hmy : mayF s n ≠ 0
        · rw [if_pos hmy]
          exact (bMove_arg w g TS L s fr tt n h hL (findF_some hi) (findF_some hj) hij hs hmy).mono (fin _)
        · rw [if_neg hmy]
          have hmy' : mayF s n = 0 := Classical.byContradiction fun e => hmy e
          obtain ⟨hlt, -, -⟩ := List.findIdx?_eq_some_iff_getElem.1 hi
          have hx : L[i]? = some L[i] := List.getElem?_eq_getElem hlt
          generalize L[i] = x at hx
          obtain ⟨hlt2, -, -⟩ := List.findIdx?_eq_some_iff_getElem.1 hj
          have hy : L[j]? = some L[j] := List.getElem?_eq_getElem hlt2
          generalize L[j] = y at hy
          have hxm : (L.map BV.e)[i]? = some x.e := by rw [List.getElem?_map, hx]; rfl
          have hym : (L.map BV.e)[j]? = some y.e := by rw [List.getElem?_map, hy]; rfl
          have hwx := (hok x.e (List.mem_of_getElem? hxm)).bw s
          have hwy := (hok y.e (List.mem_of_getElem? hym)).bw s
          rw [hxm, hym]
          dsimp only
          by_cases hl : ofF x.its s < n
          · rw [if_pos (show ofF x.e.its s < n from hl)]
            exact (bMove_less w g TS L s fr tt n h hL (findF_some hi) (findF_some hj) hij hs hx hy hwx hwy hmy' hl).mono (fin 51)
          · rw [if_neg (show ¬ ofF x.e.its s < n from hl)]
            by_cases hk : kindE y.e s = 3
            · rw [if_pos (.inl hk)]
              exact (bMove_kind w g TS L s fr tt n h hL (findF_some hi) (findF_some hj) hij hs hx hy hwx hwy hmy' hl hk).mono (fin 2)
            · by_cases hf : leftE y.e < n
              · rw [if_pos (.inr hf)]
                exact (bMove_left w g TS L s fr tt n h hL (findF_some hi) (findF_some hj) hij hs hx hy hwx hwy hmy' hl hk hf).mono (fin 2)
              · rw [if_neg (fun q => q.elim hk hf)]
                exact bMove_ok w g TS L s fr tt n h hL (findF_some hi) (findF_some hj) hij hs hx hy hwx hwy hmy' hl hk hf
end Go.Proofs.YtefjdcghdcbojaaGreat

namespace Go.Proofs.YtefjdcghdcbojaaGreat
open Go.RowKit Go.Maps
/-- What Move leaves. -/
def MrP (w : World) (g : Nat) (TS : Nat → Prop) (R : Int × List BE) (e : Ending) (w' : World) : Prop :=
  e = .returned (.int .i64 R.1) ∧ ∃ L' TS', RA w' g TS' L' ∧ L'.map BV.e = R.2 ∧ Stp TS w w' TS'
theorem MrP.same {w w' : World} {g : Nat} {TS : Nat → Prop} {L : List BV} {a : Int} (h : RA w g TS L) (hf : Fr (fun _ => False) w w') : MrP w g TS (a, L.map BV.e) (.returned (.int .i64 a)) w' :=
  ⟨rfl, L, TS, h.fr hf (fun _ _ e => e), rfl, Stp.refl hf⟩
/-- What a row of the reference reads, behind what only lays blocks. -/
theorem ra_facts {w : World} {g : Nat} {TS : Nat → Prop} {L : List BV} {N : Nat} (h : RA w g TS L) (hN : L.length = N) (h0 : 0 < N) : ∃ ad c, ∀ W, Fr (fun _ => False) w W → W.cell? ⟨g, 0, none⟩ = some (.slice (some ad) N c) ∧ Rd W 4 (some ad) N (flat BV.cs L) ∧ ∀ (i : Nat) (x : BV), L[i]? = some x → W.cell? (ad.add (i * 4)) = some (.int .i64 x.nu) ∧ W.cell? ⟨(ad.add (i * 4)).block, (ad.add (i * 4)).off + 1, none⟩ = some (.int .i64 x.zo) ∧ W.cell? ⟨(ad.add (i * 4)).block, (ad.add (i * 4)).off + 2, none⟩ = some (.int .i64 x.ro) ∧ W.cell? ⟨(ad.add (i * 4)).block, (ad.add (i * 4)).off + 3, none⟩ = some x.l ∧ BOk W x := by
  obtain ⟨r, c, h1, h2, h3⟩ := h.row
  refine ⟨⟨r, 0, none⟩, c, fun W hf => ?_⟩
  have q1 := hf.at_ h1 (fun e => e)
  have q2 := h3.fr0 bokKeeps hf
  have hrd := q2.rd bvSize (by omega)
  rw [hN] at q1 hrd
  refine ⟨cell_obj q1 0 _ rfl, hrd, fun i x hx => ?_⟩
  obtain ⟨ad, e, hk, z0, zs⟩ := q2.at_ hx
  cases e
  exact ⟨z0 _ rfl, zs 0 _ rfl, zs 1 _ rfl, zs 2 _ rfl, hk⟩
theorem may_rise {x : BE} (h : BEok x) : RiseI x.its := by
  have hm := h.may
  unfold mayL at hm
  simp only [Bool.and_eq_true, decide_eq_true_eq] at hm
  exact (itsOk_rise hm.1).1
theorem find_cases (L : List BV) (n : Int) : (L.findIdx? (fun b => decide (b.nu = n)) = none ∧ findF L n = -1) ∨ ∃ (i : Nat) (x : BV), L.findIdx? (fun b => decide (b.nu = n)) = some i ∧ findF L n = (i : Int) ∧ L[i]? = some x := by
  cases hi : L.findIdx? (fun b => decide (b.nu = n)) with
  | none => exact .inl ⟨rfl, findF_none hi⟩
  | some i =>
    obtain ⟨hl, -⟩ := List.findIdx?_eq_some_iff_getElem.1 hi
    exact .inr ⟨i, _, rfl, findF_some hi, List.getElem?_eq_getElem hl⟩
set_option maxRecDepth 100000 in
set_option maxHeartbeats 16000000 in
theorem rMove (w : World) (g : Nat) (TS : Nat → Prop) (L : List BV) (s : Str) (fr tt n : Int) (h : RA w g TS L) (hok : ∀ x ∈ L.map BV.e, BEok x) (hL0 : 0 < L.length) (hL : L.length ≤ 64) (hs : okS s) (hn : okI n) :
    Calls Tryz.prog 44 #[.pointer (some ⟨g, 0, none⟩), vS s, .int .i64 fr, .int .i64 tt, .int .i64 n] w fun e w' => MrP w g TS (moveE (L.map BV.e) s fr tt n) e w' := by
  obtain ⟨j0, hj', hy0, hy1, hy2⟩ := info_parts infoRowS
  unfold moveE
  rw [find_map, find_map]
  have HA := Lib.hid h
  have hfa := Lib.hid (fun W (hf : Fr (fun _ => False) w W) => rFind W g L fr (h.rl.keep hf))
  have hfb := Lib.hid (fun W (hf : Fr (fun _ => False) w W) => rFind W g L tt (h.rl.keep hf))
  have HF0 : Hid (Fr (fun _ => False) w w) := Lib.hid (Fr.refl _ _)
  have hmy := fun W => rMayN W s n hs
  rcases find_cases L fr with ⟨ha, hfa'⟩ | ⟨i, x, ha, hfa', hx⟩
  · rw [ha]
    dsimp only
    rcases find_cases L tt with ⟨hb, hfb'⟩ | ⟨j, y, hb, hfb', hy⟩
    · rw [hfa'] at hfa; rw [hfb'] at hfb
      clear h hok hmy ha hfa' hb hfb' hs hn
      go_enter Tryz.func44, Tryz.ntmps44
      go_wp2_with (first
        | (go_at_call 81; (with_reducible refine (hfb.out _ HF.out).mono ?_); rintro e w2 ⟨rfl, hf2⟩; have HF2 := Lib.hid (HF.out.trans hf2); clear hf2)
        | (go_at_call 81; (with_reducible refine (hfa.out _ HF0.out).mono ?_); rintro e w1 ⟨rfl, hf1⟩; have HF := Lib.hid (HF0.out.trans hf1); clear hf1))
      go_ret
      exact MrP.same HA.out HF2.out
    · rw [hfa'] at hfa; rw [hfb'] at hfb
      have hnj : ¬ (j : Int) < 0 := by omega
      clear h hok hmy ha hfa' hb hfb' hs hn hy
      go_enter Tryz.func44, Tryz.ntmps44
      go_wp2_with (first
        | (go_at_call 81; (with_reducible refine (hfb.out _ HF.out).mono ?_); rintro e w2 ⟨rfl, hf2⟩; have HF2 := Lib.hid (HF.out.trans hf2); clear hf2)
        | (go_at_call 81; (with_reducible refine (hfa.out _ HF0.out).mono ?_); rintro e w1 ⟨rfl, hf1⟩; have HF := Lib.hid (HF0.out.trans hf1); clear hf1))
      go_ret
      exact MrP.same HA.out HF2.out
  rw [ha]
  have hni : ¬ (i : Int) < 0 := by omega
  rw [hfa'] at hfa
  rcases find_cases L tt with ⟨hb, hfb'⟩ | ⟨j, y, hb, hfb', hy⟩
  · rw [hb]
    dsimp only
    rw [hfb'] at hfb
    clear h hok hmy ha hfa' hb hfb' hs hn hx
    go_enter Tryz.func44, Tryz.ntmps44
    go_wp2_with (first
      | (go_at_call 81; (with_reducible refine (hfb.out _ HF.out).mono ?_); rintro e w2 ⟨rfl, hf2⟩; have HF2 := Lib.hid (HF.out.trans hf2); clear hf2)
      | (go_at_call 81; (with_reducible refine (hfa.out _ HF0.out).mono ?_); rintro e w1 ⟨rfl, hf1⟩; have HF := Lib.hid (HF0.out.trans hf1); clear hf1))
    go_ret
    exact MrP.same HA.out HF2.out
  rw [hb]
  dsimp only
  rw [hfb'] at hfb
  have hnj : ¬ (j : Int) < 0 := by omega
  by_cases hij : i = j
  · subst hij
    rw [if_pos rfl]
    clear h hok hmy ha hfa' hb hfb' hs hn hx hy
    go_enter Tryz.func44, Tryz.ntmps44
    go_wp2_with (first
      | (go_at_call 81; (with_reducible refine (hfb.out _ HF.out).mono ?_); rintro e w2 ⟨rfl, hf2⟩; have HF2 := Lib.hid (HF.out.trans hf2); clear hf2)
      | (go_at_call 81; (with_reducible refine (hfa.out _ HF0.out).mono ?_); rintro e w1 ⟨rfl, hf1⟩; have HF := Lib.hid (HF0.out.trans hf1); clear hf1))
    go_ret
    exact MrP.same HA.out HF2.out
  rw [if_neg hij]
  have hijI : ((i : Int) == (j : Int)) = false := by simp; omega
  by_cases hm : mayF s n ≠ 0
  · rw [if_pos hm]
    have h60 : mayF s n = 60 := by
      unfold mayF at hm ⊢
      split at hm
      · exact absurd rfl hm
      · rename_i h1; rw [if_neg h1]
    have hd : decide (mayF s n = 0) = false := decide_eq_false hm
    simp only [hd] at hmy
    have HMY := Lib.hid hmy
    rw [h60]
    clear h hok hmy ha hfa' hb hfb' hs hn hx hy hij hm h60 hd
    go_enter Tryz.func44, Tryz.ntmps44
    go_wp2_with (first
      | (go_at_call 81; (with_reducible refine (hfb.out _ HF.out).mono ?_); rintro e w2 ⟨rfl, hf2⟩; have HF2 := Lib.hid (HF.out.trans hf2); clear hf2)
      | (go_at_call 81; (with_reducible refine (hfa.out _ HF0.out).mono ?_); rintro e w1 ⟨rfl, hf1⟩; have HF := Lib.hid (HF0.out.trans hf1); clear hf1)
      | (go_at_call 86; refine (HMY.out _).mono ?_; rintro e w3 ⟨rfl, rfl⟩))
    go_ret
    exact MrP.same HA.out HF2.out
  rw [if_neg hm]
  have hm : mayF s n = 0 := Classical.byContradiction hm
  have hd : decide (mayF s n = 0) = true := decide_eq_true hm
  simp only [hd] at hmy
  have HMY := Lib.hid hmy
  obtain ⟨hgs, hm1, hm2⟩ := mayF_zero hm
  have hxe : (L.map BV.e)[i]? = some x.e := by rw [List.getElem?_map, hx]; rfl
  have hye : (L.map BV.e)[j]? = some y.e := by rw [List.getElem?_map, hy]; rfl
  rw [hxe, hye]
  dsimp only
  have hbx := hok x.e (List.mem_of_getElem? hxe)
  have hby := hok y.e (List.mem_of_getElem? hye)
  have hox := (hbx.ofs s).2; have hoy := (hby.ofs s).2; have hly := hby.left.2
  have hrx := may_rise hbx; have hry := may_rise hby
  have h16x := hbx.items.1; have h16y := hby.items.1
  have hiN := (List.getElem?_eq_some_iff.1 hx).1
  have hjN := (List.getElem?_eq_some_iff.1 hy).1
  obtain ⟨N, hN⟩ : ∃ N, L.length = N := ⟨_, rfl⟩
  have HN := Lib.hid hN
  rw [hN] at hiN hjN hL hL0
  have hiI : (i : Int) < N := by omega
  have hjI : (j : Int) < N := by omega
  have hNI : (N : Int) ≤ 64 := by omega
  have HX := Lib.hid hx; have HY := Lib.hid hy; have HIJ := Lib.hid hij
  obtain ⟨K, hKe⟩ : ∃ K, kindE y.e s = K := ⟨_, rfl⟩
  obtain ⟨LE, hLE⟩ : ∃ LE, leftE y.e = LE := ⟨_, rfl⟩
  obtain ⟨OX, hOX⟩ : ∃ O, ofF x.its s = O := ⟨_, rfl⟩
  obtain ⟨OY, hOY⟩ : ∃ O, ofF y.its s = O := ⟨_, rfl⟩
  have hOX' : ofF x.e.its s = OX := hOX
  have hOY' : ofF y.e.its s = OY := hOY
  rw [hKe, hLE, hOX', hOY']
  rw [hLE] at hly; rw [hOX'] at hox; rw [hOY'] at hoy
  have hTk := Lib.hid (fun W (hb : BOk W y) => rTakes W y s hb)
  have hLf := Lib.hid (fun W (hb : BOk W y) => rLeft1 W y hb)
  rw [hKe] at hTk
  rw [hLE] at hLf
  obtain ⟨ad, c, hfx⟩ := ra_facts h hN hL0
  have HFX := Lib.hid hfx
  have HONE : Hid (∀ u ∈ flat BV.cs L, u.oneCell' = true) := Lib.hid (by obtain ⟨_, _, _, q2⟩ := h.rl; exact bv_slices q2)
  have hOfx := Lib.hid (fun W (hb : BOk W x) => r6OfB W x.l x.its s hb.l)
  have hOfy := Lib.hid (fun W (hb : BOk W y) => r6OfB W y.l y.its s hb.l)
  rw [hOX] at hOfx; rw [hOY] at hOfy
  have hw1 : IntKind.i64.wrap (OX - n) = OX - n := IntWalk.i64_in _ ⟨by omega, by omega⟩
  have hw2 : IntKind.i64.wrap (OY + n) = OY + n := IntWalk.i64_in _ ⟨by omega, by omega⟩
  obtain ⟨la, lc, hle⟩ : ∃ la lc, x.l = .slice la x.its.length lc := by
    obtain ⟨_, _, q1, q2⟩ := h.rl
    exact (q2.okm (List.mem_of_getElem? hx)).l.sl
  obtain ⟨lb, ld, hlf⟩ : ∃ la lc, y.l = .slice la y.its.length lc := by
    obtain ⟨_, _, q1, q2⟩ := h.rl
    exact (q2.okm (List.mem_of_getElem? hy)).l.sl
  obtain ⟨m, hmx⟩ : ∃ m, x.its.length = m := ⟨_, rfl⟩
  obtain ⟨m', hmy'⟩ : ∃ m, y.its.length = m := ⟨_, rfl⟩
  rw [hmx] at hle; rw [hmy'] at hlf
  have hcx : BV.cs x = #[.int .i64 x.nu, .int .i64 x.zo, .int .i64 x.ro, .slice la m lc] := by unfold BV.cs; rw [hle]
  have hcy : BV.cs y = #[.int .i64 y.nu, .int .i64 y.zo, .int .i64 y.ro, .slice lb m' ld] := by unfold BV.cs; rw [hlf]
  rw [hcy] at hTk hLf
  rw [hle] at hOfx; rw [hlf] at hOfy
  have HLX := Lib.hid hle; have HLY := Lib.hid hlf
  have HQ : Hid (∀ W, Fr (fun _ => False) w W → (W.cell? ⟨g, 0, none⟩ = some (.slice (some ad) N c) ∧ W.cell? ⟨(ad.add (i * 4)).block, (ad.add (i * 4)).off + 3, none⟩ = some (.slice la m lc)) ∧ (W.cell? (ad.add (j * 4)) = some (.int .i64 y.nu) ∧ W.cell? ⟨(ad.add (j * 4)).block, (ad.add (j * 4)).off + 1, none⟩ = some (.int .i64 y.zo) ∧ W.cell? ⟨(ad.add (j * 4)).block, (ad.add (j * 4)).off + 2, none⟩ = some (.int .i64 y.ro) ∧ W.cell? ⟨(ad.add (j * 4)).block, (ad.add (j * 4)).off + 3, none⟩ = some (.slice lb m' ld)) ∧ BOk W x ∧ BOk W y) := Lib.hid (fun W hf => by
    obtain ⟨k1, -, k3⟩ := HFX.out W hf
    obtain ⟨a0, a1, a2, a3, a4⟩ := k3 i x HX.out
    obtain ⟨b0, b1, b2, b3, b4⟩ := k3 j y HY.out
    exact ⟨⟨k1, by rw [← HLX.out]; exact a3⟩, ⟨b0, b1, b2, by rw [← HLY.out]; exact b3⟩, a4, b4⟩)
  have hSx : Hid (0 ≤ OX - n → ∀ W, BOk W x → Calls Tryz.prog 88 #[.agg #[.int .i64 x.nu, .int .i64 x.zo, .int .i64 x.ro, .slice la m lc], vS s, .int .i64 (OX - n)] W fun e w' => ∃ v, e = .returned (.agg (BV.cs (x.put v s (OX - n)))) ∧ BOk w' (x.put v s (OX - n)) ∧ (∀ c, v.ownBlock = some c → W.heap.size ≤ c ∧ ∃ cur, w'.heap[c]? = some (.cells cur 118)) ∧ Fr (fun _ => False) W w') := Lib.hid (fun h0 W hb => by
    have := rSet W x s (OX - n) hb hs (by unfold okI; omega) h0 hrx (by have : x.e.its.length = x.its.length := rfl; omega)
    rw [hcx] at this
    exact this)
  have hSy : Hid (∀ W, BOk W y → Calls Tryz.prog 88 #[.agg #[.int .i64 y.nu, .int .i64 y.zo, .int .i64 y.ro, .slice lb m' ld], vS s, .int .i64 (OY + n)] W fun e w' => ∃ v, e = .returned (.agg (BV.cs (y.put v s (OY + n)))) ∧ BOk w' (y.put v s (OY + n)) ∧ (∀ c, v.ownBlock = some c → W.heap.size ≤ c ∧ ∃ cur, w'.heap[c]? = some (.cells cur 118)) ∧ Fr (fun _ => False) W w') := Lib.hid (fun W hb => by
    have := rSet W y s (OY + n) hb hs (by unfold okI; omega) (by omega) hry (by have : y.e.its.length = y.its.length := rfl; omega)
    rw [hcy] at this
    exact this)
  clear h hok hmy ha hfa' hb hfb' hs hn hx hy hij hm hd hgs hxe hye hbx hby hrx hry hN hKe hLE hOX hOY hOX' hOY' hfx hmx hmy' hcx hcy hle hlf
  by_cases hlt : OX < n
  · rw [if_pos hlt]
    go_enter Tryz.func44, Tryz.ntmps44
    go_wp2_with (first
    | (go_at_call 81; (with_reducible refine (hfb.out _ HFf.out).mono ?_); rintro e w2 ⟨rfl, hf2⟩; have HF := Lib.hid (HFf.out.trans hf2); obtain ⟨⟨z0, z1⟩, ⟨z2, z3, z4, z5⟩, -⟩ := HQ.out _ HF.out; clear hf2)
    | (go_at_call 81; (with_reducible refine (hfa.out _ HF0.out).mono ?_); rintro e w1 ⟨rfl, hf1⟩; have HFf := Lib.hid (HF0.out.trans hf1); clear hf1)
    | (go_at_call 86; refine (HMY.out _).mono ?_; rintro e w3 ⟨rfl, rfl⟩)
    | (go_at_call 62; refine (hOfx.out _ (HQ.out _ HF.out).2.2.1).mono ?_; rintro e w4 ⟨rfl, rfl⟩))
    go_ret
    exact MrP.same HA.out HF.out
  rw [if_neg hlt]
  have HNN : Hid (0 ≤ OX - n) := Lib.hid (by omega)
  by_cases hk : K = 3
  · have hkb : (K != 3) = false := by simp [hk]
    rw [if_pos (.inl hk)]
    rw [hkb] at hTk
    clear hk hkb
    go_enter Tryz.func44, Tryz.ntmps44
    go_wp2_with (first
    | (go_at_call 81; (with_reducible refine (hfb.out _ HFf.out).mono ?_); rintro e w2 ⟨rfl, hf2⟩; have HF := Lib.hid (HFf.out.trans hf2); obtain ⟨⟨z0, z1⟩, ⟨z2, z3, z4, z5⟩, -⟩ := HQ.out _ HF.out; clear hf2)
    | (go_at_call 81; (with_reducible refine (hfa.out _ HF0.out).mono ?_); rintro e w1 ⟨rfl, hf1⟩; have HFf := Lib.hid (HF0.out.trans hf1); clear hf1)
    | (go_at_call 86; refine (HMY.out _).mono ?_; rintro e w3 ⟨rfl, rfl⟩)
    | (go_at_call 62; refine (hOfx.out _ (HQ.out _ HF.out).2.2.1).mono ?_; rintro e w4 ⟨rfl, rfl⟩)
    | (go_at_call 89; refine (hTk.out _ (HQ.out _ HF.out).2.2.2).mono ?_; rintro e w5 ⟨rfl, hf5⟩; have HF := Lib.hid (HF.out.trans hf5); obtain ⟨⟨z0, z1⟩, ⟨z2, z3, z4, z5⟩, -⟩ := HQ.out _ HF.out; clear hf5))
    go_ret
    exact MrP.same HA.out HF.out
  have hkb : (K != 3) = true := by simpa using hk
  rw [hkb] at hTk
  by_cases hlf : LE < n
  · rw [if_pos (.inr hlf)]
    clear hk hkb
    go_enter Tryz.func44, Tryz.ntmps44
    go_wp2_with (first
    | (go_at_call 81; (with_reducible refine (hfb.out _ HFf.out).mono ?_); rintro e w2 ⟨rfl, hf2⟩; have HF := Lib.hid (HFf.out.trans hf2); obtain ⟨⟨z0, z1⟩, ⟨z2, z3, z4, z5⟩, -⟩ := HQ.out _ HF.out; clear hf2)
    | (go_at_call 81; (with_reducible refine (hfa.out _ HF0.out).mono ?_); rintro e w1 ⟨rfl, hf1⟩; have HFf := Lib.hid (HF0.out.trans hf1); clear hf1)
    | (go_at_call 86; refine (HMY.out _).mono ?_; rintro e w3 ⟨rfl, rfl⟩)
    | (go_at_call 62; refine (hOfx.out _ (HQ.out _ HF.out).2.2.1).mono ?_; rintro e w4 ⟨rfl, rfl⟩)
    | (go_at_call 89; refine (hTk.out _ (HQ.out _ HF.out).2.2.2).mono ?_; rintro e w5 ⟨rfl, hf5⟩; have HF := Lib.hid (HF.out.trans hf5); obtain ⟨⟨z0, z1⟩, ⟨z2, z3, z4, z5⟩, -⟩ := HQ.out _ HF.out; clear hf5)
    | (go_at_call 27; refine (hLf.out _ (HQ.out _ HF.out).2.2.2).mono ?_; rintro e w6 ⟨rfl, hf6⟩; have HF := Lib.hid (HF.out.trans hf6); obtain ⟨⟨z0, z1⟩, ⟨z2, z3, z4, z5⟩, -⟩ := HQ.out _ HF.out; have za := ((Fr.refl (fun _ => False) w6).alloc (.cells #[] 75)).cell z0 (fun e => e); clear hf6))
    go_ret
    exact MrP.same HA.out HF.out
  rw [if_neg (fun e => e.elim hk hlf)]
  clear hk hkb
  go_enter Tryz.func44, Tryz.ntmps44
  go_wp2_with (first
    | (go_at_call 81; (with_reducible refine (hfb.out _ HFf.out).mono ?_); rintro e w2 ⟨rfl, hf2⟩; have HF := Lib.hid (HFf.out.trans hf2); obtain ⟨⟨z0, z1⟩, ⟨z2, z3, z4, z5⟩, -⟩ := HQ.out _ HF.out; clear hf2)
    | (go_at_call 81; (with_reducible refine (hfa.out _ HF0.out).mono ?_); rintro e w1 ⟨rfl, hf1⟩; have HFf := Lib.hid (HF0.out.trans hf1); clear hf1)
    | (go_at_call 86; refine (HMY.out _).mono ?_; rintro e w3 ⟨rfl, rfl⟩)
    | (go_at_call 62; refine (hOfx.out _ (HQ.out _ HF.out).2.2.1).mono ?_; rintro e w4 ⟨rfl, rfl⟩)
    | (go_at_call 89; refine (hTk.out _ (HQ.out _ HF.out).2.2.2).mono ?_; rintro e w5 ⟨rfl, hf5⟩; have HF := Lib.hid (HF.out.trans hf5); obtain ⟨⟨z0, z1⟩, ⟨z2, z3, z4, z5⟩, -⟩ := HQ.out _ HF.out; clear hf5)
    | (go_at_call 27; refine (hLf.out _ (HQ.out _ HF.out).2.2.2).mono ?_; rintro e w6 ⟨rfl, hf6⟩; have HF := Lib.hid (HF.out.trans hf6); obtain ⟨⟨z0, z1⟩, ⟨z2, z3, z4, z5⟩, -⟩ := HQ.out _ HF.out; have za := ((Fr.refl (fun _ => False) w6).alloc (.cells #[] 75)).cell z0 (fun e => e); clear hf6)
    | (at_builtin; refine wpList_append_src rfl _ _ 69 rfl w6.heap.size 75 j0 (.agg #[.int .i64 0, .int .i64 0, .int .i64 0, .slice none 0 0]) 48 Tryz.underlying69 hj' hy0 hy1 hy2 rfl (by decide) (.slice (some ⟨w6.heap.size, 0, none⟩) 0 0) 0 [] rfl (World.ownsRow_made w6 #[] 0 (Nat.le_refl _) (Nat.zero_le _) rfl) _ rfl (HFX.out _ (HF.out.alloc _)).2.1 HONE.out (by unfold maxLen; omega) (by omega) (by simp) ?_; intro v9 w9 hown9 hgrow9 hloc9; have hf9 : Fr (fun _ => False) w w9 := (HF.out.alloc _).trans' (Fr.grown (S := fun b => w6.heap.size ≤ b) hgrow9 (fun r hr _ => by cases hr; exact Nat.le_refl _)) (fun b hb e => by have := HF.out.size; omega); rw [Nat.zero_add, List.nil_append] at hown9; obtain ⟨r, cap, hve, hcm, hsr⟩ := SrI.start (fun _ => True) HA.out hf9 (by rw [HN.out]; exact own_base hown9 HF.out.size) (by rw [HN.out]; omega) (fun _ _ => trivial); rw [HN.out] at hve hsr; subst hve; have HCM := Lib.hid hcm; have HI := Lib.hid hsr; obtain ⟨p0, p1, p2, p3, -⟩ := hsr.cells HX.out; rw [HLX.out] at p3; clear hown9 hgrow9 hloc9 hf9 hcm hsr z0 z1 z2 z3 z4 z5 za)
    | (go_at_call 88; refine (hSx.out HNN.out _ (HI.out.bins x (List.mem_of_getElem? HX.out)).1).mono ?_; rintro e w10 ⟨v, rfl, hb3, hv3, hf3⟩; have hi3 := HI.out.keep0 hf3; obtain ⟨p0, p1, p2, p3, pf⟩ := hi3.cells HX.out; rw [HLX.out] at p3; have f0 := pf (i * 4); have f1 := pf (i * 4 + 1); have f2 := pf (i * 4 + 2); have f3 := pf (i * 4 + 3); obtain ⟨va, vc, hve⟩ := hb3.l.sl; dsimp only [BV.put] at hve; subst hve; have hi4 := hi3.store HX.out hb3 trivial (fun c hc => by have h1 := (hv3 c hc).1; obtain ⟨⟨cur, k1, -⟩, -⟩ := HI.out; have h2 := (Array.getElem?_eq_some_iff.1 k1).1; exact ⟨by omega, by simp [Value.ownBlock], .inr (by have := HI.out.fr.size; omega)⟩); obtain ⟨W4, hW4⟩ : ∃ W, ((((w10.setCell ⟨r, i * 4, none⟩ (.int .i64 x.nu)).setCell ⟨r, i * 4 + 1, none⟩ (.int .i64 x.zo)).setCell ⟨r, i * 4 + 2, none⟩ (.int .i64 x.ro)).setCell ⟨r, i * 4 + 3, none⟩ (.slice va (setF x.its s (OX - n)).length vc)) = W := ⟨_, rfl⟩; have hi4' : SrI w (fun c => TS c ∧ c ≠ g) r cap N (fun _ => True) W4 (L.set i (x.put (.slice va (setF x.its s (OX - n)).length vc) s (OX - n))) (.slice none 0 0) [] := (by rw [← hW4]; exact hi4); have HI4 := Lib.hid hi4'; dsimp only [BV.cs, BV.put]; clear hb3 hv3 hf3 hi3 hi4 hi4' pf))
  have hyL : (L.set i (x.put (.slice va (setF x.its s (OX - n)).length vc) s (OX - n)))[j]? = some y := by rw [List.getElem?_set_ne HIJ.out]; exact HY.out
  obtain ⟨p0, p1, p2, p3, -⟩ := HI4.out.cells hyL
  rw [HLY.out] at p3
  have HYL := Lib.hid hyL
  clear hyL
  refine wp_region_eff [(16, true), (18, false)] [] 12 (by kernel_rfl) rfl (by kernel_rfl) (by kernel_rfl) ?_
  apply Exists.intro
  refine ⟨?hh, ?pu, ?ef⟩
  case hh =>
    intro X
    have p0 := FrW.cell (X.fr.cell p0 (fun e => e)); have p1 := FrW.cell (X.fr.cell p1 (fun e => e)); have p2 := FrW.cell (X.fr.cell p2 (fun e => e)); have p3 := FrW.cell (X.fr.cell p3 (fun e => e))
    simp (config := { decide := true }) only [boxedF, efIdx, List.map_cons, List.map_nil, idleU, if_true, if_false, ite_true, ite_false]
    repeat (go_big_quiet_step ((go_at_call 62; rename_i Y; refine (hOfy.out Y.val ((HI4.out.keep0 (X.fr.trans Y.fr)).bins y (List.mem_of_getElem? HYL.out)).1).mono ?_; rintro e w2 ⟨rfl, rfl⟩; exact ⟨rfl, Y, rfl⟩)))
    exact wpQuiet_nil rfl
  case pu =>
    intro i' hi' o ho
    cases hi'
  case ef =>
    simp only [efOps, List.filterMap_cons, List.filterMap_nil, List.getElem?_cons_succ, List.getElem?_cons_zero, Option.map_some]
    clear p0 p1 p2 p3
    intro w13 hw13
    have HI13 := Lib.hid (HI4.out.keep0 hw13)
    clear hw13
    go_wp2_with (go_at_call 88; refine (hSy.out _ (HI13.out.bins y (List.mem_of_getElem? HYL.out)).1).mono ?_; rintro e w14 ⟨vy, rfl, hb3, hv3, hf3⟩; obtain ⟨ua, uc, hve⟩ := hb3.l.sl; dsimp only [BV.put] at hve; subst hve; have HB14 := Lib.hid hb3; have HV14 := Lib.hid hv3; have HF14 := Lib.hid hf3; dsimp only [BV.cs, BV.put]; clear hb3 hv3 hf3)
    refine ⟨HF14.out, ?_⟩
    intro w15 hw15
    have hf35 : Fr (fun _ => False) w13 w15 := HF14.out.trans hw15
    have hi5 := HI13.out.keep0 hf35
    obtain ⟨p0, p1, p2, p3, pf⟩ := hi5.cells HYL.out
    rw [HLY.out] at p3
    have f0 := pf (j * 4); have f1 := pf (j * 4 + 1); have f2 := pf (j * 4 + 2); have f3 := pf (j * 4 + 3)
    have hi6 := hi5.store HYL.out (HB14.out.keep hw15 (fun _ _ _ e => e)) trivial (fun c hc => by
      have h1 := (HV14.out c hc).1
      obtain ⟨⟨cur, k1, -⟩, -⟩ := HI13.out
      have h2 := (Array.getElem?_eq_some_iff.1 k1).1
      exact ⟨by omega, by simp [Value.ownBlock], .inr (by have := HI13.out.fr.size; omega)⟩)
    obtain ⟨W6, hW6⟩ : ∃ W, ((((w15.setCell ⟨r, j * 4, none⟩ (.int .i64 y.nu)).setCell ⟨r, j * 4 + 1, none⟩ (.int .i64 y.zo)).setCell ⟨r, j * 4 + 2, none⟩ (.int .i64 y.ro)).setCell ⟨r, j * 4 + 3, none⟩ (.slice ua (setF y.its s (OY + n)).length uc)) = W := ⟨_, rfl⟩
    have hi6' : SrI w (fun c => TS c ∧ c ≠ g) r cap N (fun _ => True) W6 ((L.set i (x.put (.slice va (setF x.its s (OX - n)).length vc) s (OX - n))).set j (y.put (.slice ua (setF y.its s (OY + n)).length uc) s (OY + n))) (.slice none 0 0) [] := by rw [← hW6]; exact hi6
    have HI6 := Lib.hid hi6'
    clear hi5 hi6 hi6' pf hf35
    go_wp2_with fail
    (try rw [hW6])
    clear p0 p1 p2 p3 f0 f1 f2 f3 hW6
    intro w17 hw17
    have HI7 := Lib.hid (HI6.out.keep0 hw17)
    obtain ⟨-, gz, ⟨gv, gc⟩, -⟩ := SrI.done HA.out HN.out HI7.out HCM.out
    clear hw17
    go_wp2_with fail
    go_ret
    exact ⟨rfl, SrI.fin HA.out HN.out HI7.out HCM.out (by rw [List.map_set, List.map_set]; rfl)⟩
end Go.Proofs.YtefjdcghdcbojaaGreat

namespace Go.Proofs.YtefjdcghdcbojaaGreat
open Go.RowKit Go.Maps
section
variable {M : List BE} {cf : BE → BE → Int} {isF : BE → Bool}
/-- One index stands ahead of another one. -/
def TTi (M : List BE) (cf : BE → BE → Int) (x y : Int) : Prop := cfI M cf x y < 0 ∨ (¬ cfI M cf y x < 0 ∧ x < y)
theorem TTi.asym (h : SwoB (fun a b => decide (cf a b < 0))) {x y : Int} (h1 : TTi M cf x y) (h2 : TTi M cf y x) : False := by
  have hs := swo_cfI (L := M) h
  rcases h1 with h1 | ⟨h1, h3⟩ <;> rcases h2 with h2 | ⟨h2, h4⟩
  · have := hs.as (decide_eq_true h1)
    exact of_decide_eq_false this h2
  · exact h2 h1
  · exact h1 h2
  · omega
theorem idxK_rise (M : List BE) (isF : BE → Bool) (k : Nat) : (idxK M isF k).Pairwise (· < ·) := by
  unfold idxK
  refine List.pairwise_map.2 (List.Pairwise.imp (fun {a b} h => ?_) (List.Pairwise.filter _ List.pairwise_lt_range))
  exact Int.ofNat_lt.2 h
theorem ordI_srt (h : SwoB (fun a b => decide (cf a b < 0))) : (ordI M isF cf).Pairwise (TTi M cf) := by
  have hs := swo_cfI (L := M) h
  obtain ⟨Z, h1, h2, h3⟩ := stab_tag hs (idxK M isF M.length) 0
  unfold ordI
  rw [← h3]
  refine List.pairwise_map.2 (List.Pairwise.imp_of_mem (fun {p q} hp hq e => ?_) h1)
  rcases tag_iff.1 e with e | ⟨e1, e2⟩
  · exact .inl (of_decide_eq_true e)
  · right
    refine ⟨of_decide_eq_false e1, ?_⟩
    have a1 := (List.mem_zipIdx_iff_getElem?.1 (h2.mem_iff.1 hp))
    have a2 := (List.mem_zipIdx_iff_getElem?.1 (h2.mem_iff.1 hq))
    have b1 := List.getElem?_eq_some_iff.1 a1
    have b2 := List.getElem?_eq_some_iff.1 a2
    have := List.pairwise_iff_getElem.1 (idxK_rise M isF M.length) p.2 q.2 b1.1 b2.1 e2
    rw [b1.2, b2.2] at this
    exact this
theorem mem_ordI {i : Nat} : (i : Int) ∈ ordI M isF cf ↔ ∃ b, M[i]? = some b ∧ isF b = true := by
  unfold ordI
  rw [(stab_perm _ _).mem_iff]
  constructor
  · intro h
    obtain ⟨j, b, e, -, hb, hf⟩ := idxK_mem h
    have e : i = j := by omega
    exact ⟨b, by rw [e]; exact hb, hf⟩
  · rintro ⟨b, hb, hf⟩
    unfold idxK
    refine List.mem_map.2 ⟨i, List.mem_filter.2 ⟨List.mem_range.2 (List.getElem?_eq_some_iff.1 hb).1, ?_⟩, rfl⟩
    rw [hb]
    simpa using hf
/-- The least so far of what is left. -/
def Sc (M : List BE) (cf : BE → BE → Int) (el : Nat → Prop) (k : Nat) (best : Int) : Prop :=
  (best = -1 ∧ ∀ i, i < k → ¬ el i) ∨ ∃ b : Nat, best = (b : Int) ∧ b < k ∧ el b ∧ ∀ i, i < k → el i → i ≠ b → TTi M cf b i
variable {el : Nat → Prop} {k : Nat} {best : Int}
theorem Sc.zero : Sc M cf el 0 (-1) := .inl ⟨rfl, fun i h => by omega⟩
theorem Sc.skip (h : Sc M cf el k best) (hn : ¬ el k) : Sc M cf el (k + 1) best := by
  rcases h with ⟨h1, h2⟩ | ⟨b, h1, h2, h3, h4⟩
  · refine .inl ⟨h1, fun i hi e => ?_⟩
    rcases Nat.lt_succ_iff_lt_or_eq.1 hi with hi | rfl
    · exact h2 i hi e
    · exact hn e
  · refine .inr ⟨b, h1, by omega, h3, fun i hi e hne => ?_⟩
    rcases Nat.lt_succ_iff_lt_or_eq.1 hi with hi | rfl
    · exact h4 i hi e hne
    · exact absurd e hn
theorem Sc.first (h : Sc M cf el k best) (hb : best < 0) (he : el k) : Sc M cf el (k + 1) (k : Int) := by
  rcases h with ⟨-, h2⟩ | ⟨b, h1, -⟩
  · refine .inr ⟨k, rfl, by omega, he, fun i hi e hne => ?_⟩
    exact absurd e (h2 i (by omega))
  · omega
theorem Sc.less (hs : SwoB (fun a b => decide (cf a b < 0))) {b : Nat} (h : Sc M cf el k (b : Int)) (he : el k) (hl : cfI M cf k b < 0) : Sc M cf el (k + 1) (k : Int) := by
  have hS := swo_cfI (L := M) hs
  rcases h with ⟨h1, -⟩ | ⟨b', h1, h2, h3, h4⟩
  · omega
  · obtain rfl : b = b' := by omega
    refine .inr ⟨k, rfl, by omega, he, fun i hi e hne => ?_⟩
    left
    by_cases hib : i = b
    · rw [hib]; exact hl
    · rcases h4 i (by omega) e hib with h5 | ⟨h5, -⟩
      · exact of_decide_eq_true (hS.tr _ _ _ (decide_eq_true hl) (decide_eq_true h5))
      · exact Classical.byContradiction fun h6 => by
          have := hS.ntr _ _ _ (decide_eq_false h6) (decide_eq_false h5)
          exact of_decide_eq_false this hl
theorem Sc.more {b : Nat} (h : Sc M cf el k (b : Int)) (hl : ¬ cfI M cf k b < 0) : Sc M cf el (k + 1) (b : Int) := by
  rcases h with ⟨h1, -⟩ | ⟨b', h1, h2, h3, h4⟩
  · omega
  · obtain rfl : b = b' := by omega
    refine .inr ⟨b, rfl, by omega, h3, fun i hi e hne => ?_⟩
    rcases Nat.lt_succ_iff_lt_or_eq.1 hi with hi | rfl
    · exact h4 i hi e hne
    · exact .inr ⟨hl, by omega⟩
/-- What is picked is the next of the order. -/
theorem Sc.pick (hs : SwoB (fun a b => decide (cf a b < 0))) {j : Nat} (h : Sc M cf (fun i => (i : Int) ∈ (ordI M isF cf).drop j) M.length best) :
    (best = -1 ∧ (ordI M isF cf).length ≤ j) ∨ ∃ b : Nat, best = (b : Int) ∧ (ordI M isF cf)[j]? = some (b : Int) ∧ b < M.length := by
  have hlt : ∀ x ∈ (ordI M isF cf).drop j, ∃ i : Nat, x = (i : Int) ∧ i < M.length := fun x hx => ordI_in (List.mem_of_mem_drop hx)
  rcases h with ⟨h1, h2⟩ | ⟨b, h1, h2, h3, h4⟩
  · left
    refine ⟨h1, ?_⟩
    cases hd : (ordI M isF cf).drop j with
    | nil => exact List.drop_eq_nil_iff.1 hd
    | cons x r =>
      obtain ⟨i, rfl, hi⟩ := hlt x (by rw [hd]; exact List.mem_cons_self)
      exact absurd (show (i : Int) ∈ (ordI M isF cf).drop j by rw [hd]; exact List.mem_cons_self) (h2 i hi)
  · right
    refine ⟨b, h1, ?_, h2⟩
    cases hd : (ordI M isF cf).drop j with
    | nil => rw [hd] at h3; cases h3
    | cons x r =>
      have hx : (ordI M isF cf)[j]? = some x := by
        have := List.getElem?_drop (xs := ordI M isF cf) (i := j) (j := 0)
        rw [hd] at this
        simpa using this.symm
      obtain ⟨i, rfl, hi⟩ := hlt x (by rw [hd]; exact List.mem_cons_self)
      by_cases e : i = b
      · rw [hx, e]
      · exfalso
        have t1 := h4 i hi (show (i : Int) ∈ (ordI M isF cf).drop j by rw [hd]; exact List.mem_cons_self) e
        have hp := (ordI_srt (M := M) (isF := isF) hs).drop (i := j)
        rw [hd] at hp
        rw [hd] at h3
        have t2 := (List.pairwise_cons.1 hp).1 b ((List.mem_cons.1 h3).resolve_left (fun e2 => e (by omega)))
        exact TTi.asym hs t1 t2
end
section
variable {can : BE → Int} {nE : BE → Int → Int} {s : Str}
theorem stepS_zero {M : List BE} {n : Int} {o : List PV} (hn : n ≤ 0) (i : Int) : stepS can nE s (M, n, o) i = (M, n, o) := by
  unfold stepS
  dsimp only
  cases M[i.toNat]? with
  | none => rfl
  | some b => dsimp only; rw [if_pos (by omega)]
theorem fold_zero {n : Int} (hn : n ≤ 0) : ∀ (ord : List Int) (M : List BE) (o : List PV), ord.foldl (stepS can nE s) (M, n, o) = (M, n, o)
  | [], _, _ => rfl
  | i :: r, M, o => by rw [List.foldl_cons, stepS_zero hn, fold_zero hn r]
theorem fold_split {ord : List Int} {j : Nat} {M M' : List BE} {n n' : Int} {o o' : List PV} (h : (ord.take j).foldl (stepS can nE s) (M, n, o) = (M', n', o')) (hn : n' ≤ 0) : ord.foldl (stepS can nE s) (M, n, o) = (M', n', o') := by
  conv => lhs; rw [← List.take_append_drop j ord]
  rw [List.foldl_append, h, fold_zero hn]
theorem stepS_else {M : List BE} {n : Int} {o : List PV} {i : Int} {q : Nat} (h : q ≠ i.toNat) : (stepS can nE s (M, n, o) i).1[q]? = M[q]? := by
  unfold stepS
  dsimp only
  cases M[i.toNat]? with
  | none => rfl
  | some b =>
    dsimp only
    split
    · rfl
    · dsimp only; rw [List.getElem?_set_ne (fun e => h e.symm)]
theorem fold_else {q : Nat} : ∀ (ord : List Int) (st : List BE × Int × List PV), (∀ x ∈ ord, q ≠ x.toNat) → (ord.foldl (stepS can nE s) st).1[q]? = st.1[q]?
  | [], _, _ => rfl
  | i :: r, st, h => by
    rw [List.foldl_cons, fold_else r _ (fun x hx => h x (List.mem_cons_of_mem _ hx))]
    exact stepS_else (h i List.mem_cons_self)
end
end Go.Proofs.YtefjdcghdcbojaaGreat

namespace Go.Proofs.YtefjdcghdcbojaaGreat
open Go.RowKit Go.Maps
/-- What Put and Take of the reference leave. -/
def PrP (w : World) (g : Nat) (TS : Nat → Prop) (err : Int) (F : List BE × Int × List PV) (e : Ending) (w' : World) : Prop :=
  (0 < F.2.1 ∧ e = .returned (.tuple #[.slice none 0 0, .int .i64 err]) ∧ Fr (fun _ => False) w w') ∨
  (F.2.1 ≤ 0 ∧ ∃ v L' TS', e = .returned (.tuple #[v, .int .i64 0]) ∧ Pl w' v F.2.2 ∧ RA w' g TS' L' ∧ L'.map BV.e = F.1 ∧ Stp TS w w' TS')
set_option maxRecDepth 100000 in
set_option maxHeartbeats 4000000 in
theorem rTake_no (w : World) (g : Nat) (s : Str) (n : Int) (hs : okS s) (hm : mayF s n ≠ 0) : Calls Tryz.prog 42 #[.pointer (some ⟨g, 0, none⟩), vS s, .int .i64 n] w fun e w' => e = .returned (.tuple #[.slice none 0 0, .int .i64 60]) ∧ Fr (fun _ => False) w w' := by
  have hmy := fun W => rMayN W s n hs
  have hd : decide (mayF s n = 0) = false := decide_eq_false hm
  simp only [hd] at hmy
  have HMY := Lib.hid hmy
  clear hmy hd hm hs
  go_enter Tryz.func42, Tryz.ntmps42
  go_wp2_with (go_at_call 86; refine (HMY.out _).mono ?_; rintro e w3 ⟨rfl, rfl⟩)
  go_ret2
  exact ⟨rfl, Fr.refl _ _⟩
set_option maxRecDepth 100000 in
set_option maxHeartbeats 32000000 in
theorem rTake (w : World) (g : Nat) (TS : Nat → Prop) (L : List BV) (s : Str) (n : Int) (h : RA w g TS L) (hok : ∀ x ∈ L.map BV.e, BEok x) (hL0 : 0 < L.length) (hL : L.length ≤ 64) (hm : mayF s n = 0) :
    Calls Tryz.prog 42 #[.pointer (some ⟨g, 0, none⟩), vS s, .int .i64 n] w fun e w' => PrP w g TS 51 (takeF (L.map BV.e) s n) e w' := by
  obtain ⟨j0, hj', hy0, hy1, hy2⟩ := info_parts infoRowS
  obtain ⟨i0, hi', hz0, hz1, hz2⟩ := info_parts infoPlace
  obtain ⟨hgs, hm1, hm2⟩ := mayF_zero hm
  have hs := good_okS hgs
  have HA := Lib.hid h
  have hmy := fun W => rMayN W s n hs
  have hd : decide (mayF s n = 0) = true := decide_eq_true hm
  simp only [hd] at hmy
  have HMY := Lib.hid hmy
  have hOF := Lib.hid (rOf w g L s h.rl)
  have hlm : (L.map BV.e).length ≤ 64 := by rw [List.length_map]; exact hL
  have hsum := sumE_sum (s := s) hok hlm
  obtain ⟨M, hM⟩ : ∃ M, L.map BV.e = M := ⟨_, rfl⟩
  rw [hM] at hok hsum hOF hlm ⊢
  have HM := Lib.hid hM
  obtain ⟨SE, hSE⟩ : ∃ SE, sumE M s = SE := ⟨_, rfl⟩
  rw [hSE] at hOF hsum
  obtain ⟨PP, hPP⟩ : ∃ PP, PrP w g TS 51 (takeF M s n) = PP := ⟨_, rfl⟩
  have HPP := Lib.hid hPP
  rw [hPP]
  obtain ⟨N, hN⟩ : ∃ N, L.length = N := ⟨_, rfl⟩
  have HN := Lib.hid hN
  rw [hN] at hL hL0
  have hNI : (N : Int) ≤ 64 := by omega
  by_cases hless : SE < n
  · have hlt : Hid (0 < (takeF M s n).2.1) := Lib.hid (take_less hok hgs (by omega) (by rw [← hsum]; exact hless))
    clear h hok hmy hd hm hgs hs hM hSE hPP hN hsum
    go_enter Tryz.func42, Tryz.ntmps42
    go_wp2_with (first
      | (go_at_call 86; refine (HMY.out _).mono ?_; rintro e w3 ⟨rfl, rfl⟩)
      | (go_at_call 18; refine hOF.out.mono ?_; rintro e w1 ⟨rfl, hf1⟩; have HF := Lib.hid hf1; clear hf1))
    rw [← HPP.out]
    exact .inl ⟨hlt.out, rfl, HF.out⟩
  have hfull := full_take hok hgs (R := n) (by omega) (by omega)
  have hF0 : Hid ((takeF M s n).2.1 = 0) := Lib.hid hfull.1
  obtain ⟨ord, hord⟩ : ∃ ord, ordI M (fun b => decide (0 < ofF b.its s)) (cfTake s) = ord := ⟨_, rfl⟩
  obtain ⟨ST, hST⟩ : ∃ ST : (List BE × Int × List PV) → Int → (List BE × Int × List PV), stepS (fun b => ofF b.its s) (fun b k => ofF b.its s - k) s = ST := ⟨_, rfl⟩
  have htF : takeF M s n = ord.foldl ST (M, n, []) := by unfold takeF spF; rw [hord, hST]
  have HTF := Lib.hid htF
  have hordl : ord.length ≤ N := by have := ordI_len M (fun b => decide (0 < ofF b.its s)) (cfTake s); rw [hord, ← hM, List.length_map, hN] at this; exact this
  have hnod : ord.Nodup := by rw [← hord]; exact ordI_nodup _ _ _
  have hmem : ∀ (i : Nat), (i : Int) ∈ ord ↔ ∃ b, M[i]? = some b ∧ 0 < ofF b.its s := fun i => by rw [← hord, mem_ordI]; simp
  have HORD := Lib.hid hord; have HST := Lib.hid hST; have HORL := Lib.hid hordl; have HNOD := Lib.hid hnod; have HMEM := Lib.hid hmem
  have HSWO := Lib.hid (cfTake_swo s)
  have HMN : Hid (M.length = N) := Lib.hid (by rw [← hM, List.length_map, hN])
  obtain ⟨ad, c, hfx⟩ := ra_facts h hN hL0
  have HFX := Lib.hid hfx
  have HONE : Hid (∀ u ∈ flat BV.cs L, u.oneCell' = true) := Lib.hid (by obtain ⟨_, _, _, q2⟩ := h.rl; exact bv_slices q2)
  have HOK := Lib.hid hok; have HGS := Lib.hid hgs; have HSS := Lib.hid hs
  have hnI : n ≤ 1099511627776 := hm2
  have HPE : Hid (∀ b ∈ L, BEok b.e) := Lib.hid (fun b hb => hok b.e (by rw [← hM]; exact List.mem_map_of_mem hb))
  clear h hok hmy hd hm hgs hs hM hSE hPP hN hsum hfull hord hST htF hordl hnod hmem hfx hlm
  go_enter Tryz.func42, Tryz.ntmps42
  go_wp2_with (first
    | (go_at_call 86; refine (HMY.out _).mono ?_; rintro e w3 ⟨rfl, rfl⟩)
    | (go_at_call 18; refine hOF.out.mono ?_; rintro e w1 ⟨rfl, hf1⟩; have HF := Lib.hid hf1; have z0 := (HFX.out w1 hf1).1; have za := ((Fr.refl (fun _ => False) w1).alloc (.cells #[] 75)).cell z0 (fun e => e); clear hf1)
    | (at_builtin; refine wpList_append_src rfl _ _ 69 rfl w1.heap.size 75 j0 (.agg #[.int .i64 0, .int .i64 0, .int .i64 0, .slice none 0 0]) 48 Tryz.underlying69 hj' hy0 hy1 hy2 rfl (by decide) (.slice (some ⟨w1.heap.size, 0, none⟩) 0 0) 0 [] rfl (World.ownsRow_made w1 #[] 0 (Nat.le_refl _) (Nat.zero_le _) rfl) _ rfl (HFX.out _ (HF.out.alloc _)).2.1 HONE.out (by unfold maxLen; omega) (by omega) (by simp) ?_; intro v9 w9 hown9 hgrow9 hloc9; have hf9 : Fr (fun _ => False) w w9 := (HF.out.alloc _).trans' (Fr.grown (S := fun b => w1.heap.size ≤ b) hgrow9 (fun r hr _ => by cases hr; exact Nat.le_refl _)) (fun b hb e => by have := HF.out.size; omega); rw [Nat.zero_add, List.nil_append] at hown9; obtain ⟨r, cap, hve, hcm, hsr⟩ := SrI.start BEok HA.out hf9 (by rw [HN.out]; exact own_base hown9 HF.out.size) (by rw [HN.out]; omega) HPE.out; rw [HN.out] at hve hsr; subst hve; have HCM := Lib.hid hcm; have HI0 := Lib.hid hsr; clear hown9 hgrow9 hloc9 hf9 hcm hsr z0 za))
  go_loopw [2, 9] (fun vn vo wr => ∃ (j : Nat) (nj : Int) (Lj : List BV) (out : List PV), j ≤ ord.length ∧ vn = .int .i64 nj ∧ 0 ≤ nj ∧ nj ≤ n ∧ out.length ≤ j ∧ (ord.take j).foldl ST (M, n, []) = (Lj.map BV.e, nj, out) ∧ SrI w (fun c => TS c ∧ c ≠ g) r cap N BEok wr Lj vo out ∧ (∀ p ∈ out, okPv wr p) ∧ (0 < nj → ∀ (q : Nat) (x : BV), (q : Int) ∈ ord.take j → Lj[q]? = some x → ofF x.its s = 0)) (fun vn _ _ => (intOf vn).toNat)
  case atStart => exact ⟨0, n, L, [], Nat.zero_le _, rfl, by omega, Int.le_refl _, Nat.le_refl _, by rw [HM.out]; rfl, HI0.out, fun p hp => (by cases hp), fun _ q x hq _ => (by cases hq)⟩
  case round =>
    obtain ⟨j, nj, Lj, out, hj, rfl, hnn, hnle, hol, hF, hI, hop, huz⟩ := hrel
    have HI := Lib.hid hI; have HF2 := Lib.hid hF; have HOP := Lib.hid hop; have HUZ := Lib.hid huz
    obtain ⟨ao, ac, rfl⟩ := row_sl hI.out
    have HJ := Lib.hid hj; have HOL := Lib.hid hol
    clear hI hF hop huz hj hol
    by_cases hpos : 0 < nj
    · -- what the rows hold
      have hrow : Hid (∀ (q : Nat) (x : BV), Lj[q]? = some x → (((q : Int) ∈ ord.drop j) → M[q]? = some x.e) ∧ (0 < ofF x.its s ↔ (q : Int) ∈ ord.drop j)) := Lib.hid (fun q x hx => by
        have hsplit := List.take_append_drop j ord
        have hnd : (q : Int) ∈ ord.take j → (q : Int) ∈ ord.drop j → False := fun h1 h2 => by
          have := HNOD.out
          rw [← hsplit, List.nodup_append] at this
          exact this.2.2 _ h1 _ h2 rfl
        by_cases hq : (q : Int) ∈ ord.take j
        · have h0 := HUZ.out hpos q x hq hx
          exact ⟨fun h2 => (hnd hq h2).elim, ⟨fun h2 => by omega, fun h2 => (hnd hq h2).elim⟩⟩
        · have hels := fold_else (q := q) (can := fun b => ofF b.its s) (nE := fun b k => ofF b.its s - k) (s := s) (ord.take j) (M, n, []) (fun y hy e => by
            obtain ⟨i, rfl, -⟩ := ordI_in (L := M) (isF := fun b => decide (0 < ofF b.its s)) (cf := cfTake s) (x := y) (by rw [HORD.out]; exact List.mem_of_mem_take hy)
            have e : q = i := by omega
            exact hq (e ▸ hy))
          rw [HST.out, HF2.out] at hels
          dsimp only at hels
          rw [List.getElem?_map, hx] at hels
          have hMq : M[q]? = some x.e := hels.symm
          refine ⟨fun _ => hMq, ?_⟩
          have hm := HMEM.out q
          constructor
          · intro h2
            have : (q : Int) ∈ ord := hm.2 ⟨x.e, hMq, h2⟩
            rw [← hsplit] at this
            exact (List.mem_append.1 this).resolve_left hq
          · intro h2
            obtain ⟨b, hb, h3⟩ := hm.1 (List.mem_of_mem_drop h2)
            rw [hMq] at hb
            injection hb with hb
            rw [← hb] at h3
            exact h3)
      go_wp2_with fail
      go_loopw [10, 11] (fun vb vi wq => ∃ (k : Nat) (bst : Int), k ≤ N ∧ vi = .int .i64 k ∧ vb = .int .i64 bst ∧ Sc M (cfTake s) (fun i => (i : Int) ∈ ord.drop j) k bst ∧ Fr (fun _ => False) wr wq) (fun _ vi _ => N - (intOf vi).toNat)
      case atStart => exact ⟨0, -1, Nat.zero_le _, rfl, rfl, Sc.zero, Fr.refl _ _⟩
      case round =>
        obtain ⟨k, bst, hk, rfl, rfl, hsc, hfq⟩ := hrel
        have HSC := Lib.hid hsc; have HFQ := Lib.hid hfq
        have HIQ := Lib.hid (HI.out.keep0 hfq)
        clear hsc hfq
        by_cases hlt : k < N
        · have hkI : (k : Int) < N := by omega
          obtain ⟨x, hx⟩ : ∃ x, Lj[k]? = some x := ⟨Lj[k]'(by rw [HI.out.len]; exact hlt), List.getElem?_eq_getElem _⟩
          obtain ⟨p0, p1, p2, p3, -⟩ := HIQ.out.cells hx
          obtain ⟨hbk, -, -⟩ := HIQ.out.bins x (List.mem_of_getElem? hx)
          obtain ⟨la, lc, hl⟩ := hbk.l.sl
          rw [hl] at p3
          have hro := hrow.out k x hx
          have hOx := Lib.hid (r6OfB _ x.l x.its s hbk.l)
          rw [hl] at hOx
          obtain ⟨O, hO⟩ : ∃ O, ofF x.its s = O := ⟨_, rfl⟩
          rw [hO] at hOx hro
          obtain ⟨m, hmm⟩ : ∃ m, x.its.length = m := ⟨_, rfl⟩
          rw [hmm] at p3 hOx
          have HX := Lib.hid hx; have HO := Lib.hid hO; have HRO := Lib.hid hro
          clear hx hbk hl hro hO hmm
          by_cases hOp : 0 < O
          · have hel := HRO.out.2.1 hOp
            have hMx := HRO.out.1 hel
            have HEL := Lib.hid hel
            have HMX := Lib.hid hMx
            clear hel hMx
            have hbc : bst < 0 ∨ ∃ b : Nat, bst = (b : Int) ∧ b < N := by
              rcases HSC.out with ⟨e, -⟩ | ⟨b, e, hb, hb2, -⟩
              · exact .inl (by omega)
              · exact .inr ⟨b, e, by omega⟩
            rcases hbc with hbn | ⟨b, rfl, hbN⟩
            · have hnew := Lib.hid (HSC.out.first hbn HEL.out)
              go_wp2_with (go_at_call 62; refine hOx.out.mono ?_; rintro e w4 ⟨rfl, rfl⟩)
              go_roundw
              case rel => exact ⟨k + 1, _, by omega, by go_num, rfl, hnew.out, HFQ.out⟩
              case measure => simp [intOf]; omega
            · obtain ⟨y, hy⟩ : ∃ y, Lj[b]? = some y := ⟨Lj[b]'(by rw [HI.out.len]; exact hbN), List.getElem?_eq_getElem _⟩
              have hbI : (b : Int) < N := by omega
              have hbn : ¬ (b : Int) < 0 := by omega
              obtain ⟨r0, r1, r2, r3, -⟩ := HIQ.out.cells hy
              obtain ⟨hbk, -, -⟩ := HIQ.out.bins y (List.mem_of_getElem? hy)
              obtain ⟨lb, ld, hl⟩ := hbk.l.sl
              rw [hl] at r3
              have hOy := Lib.hid (r6OfB _ y.l y.its s hbk.l)
              rw [hl] at hOy
              obtain ⟨OY, hOY⟩ : ∃ O, ofF y.its s = O := ⟨_, rfl⟩
              rw [hOY] at hOy
              obtain ⟨m', hmm⟩ : ∃ m, y.its.length = m := ⟨_, rfl⟩
              rw [hmm] at r3 hOy
              have hMy : M[b]? = some y.e := by
                rcases HSC.out with ⟨e, -⟩ | ⟨b', e, -, hb2, -⟩
                · omega
                · obtain rfl : b = b' := by omega
                  exact (hrow.out b y hy).1 hb2
              have hcf : cfI M (cfTake s) (k : Int) (b : Int) < 0 ↔ O < OY := by
                rw [cfI_at HMX.out hMy, cfTake_lt, ← HO.out, ← hOY]; exact Iff.rfl
              have HCF := Lib.hid hcf
              clear hy hbk hl hOY hmm hMy hcf r0 r1 r2
              by_cases hl2 : O < OY
              · have hnew := Lib.hid (Sc.less HSWO.out HSC.out HEL.out (HCF.out.2 hl2))
                go_wp2_with (first
                  | (go_at_call 62; (with_reducible refine hOy.out.mono ?_); rintro e w5 ⟨rfl, rfl⟩)
                  | (go_at_call 62; (with_reducible refine hOx.out.mono ?_); rintro e w4 ⟨rfl, rfl⟩))
                go_roundw
                case rel => exact ⟨k + 1, _, by omega, by go_num, rfl, hnew.out, HFQ.out⟩
                case measure => simp [intOf]; omega
              · have hnew := Lib.hid (Sc.more HSC.out (fun e => hl2 (HCF.out.1 e)))
                go_wp2_with (first
                  | (go_at_call 62; (with_reducible refine hOy.out.mono ?_); rintro e w5 ⟨rfl, rfl⟩)
                  | (go_at_call 62; (with_reducible refine hOx.out.mono ?_); rintro e w4 ⟨rfl, rfl⟩))
                go_roundw
                case rel => exact ⟨k + 1, _, by omega, by go_num, rfl, hnew.out, HFQ.out⟩
                case measure => simp [intOf]; omega
          · have hnew := Lib.hid (HSC.out.skip (fun e => hOp (HRO.out.2.2 e)))
            go_wp2_with (go_at_call 62; refine hOx.out.mono ?_; rintro e w4 ⟨rfl, rfl⟩)
            go_roundw
            case rel => exact ⟨k + 1, _, by omega, by go_num, rfl, hnew.out, HFQ.out⟩
            case measure => simp [intOf]; omega
        · obtain rfl : k = N := by omega
          have hkI : ¬ (k : Int) < k := by omega
          have hpk := Sc.pick (M := M) (isF := fun b => decide (0 < ofF b.its s)) (cf := cfTake s) HSWO.out (j := j) (best := bst) (by rw [HORD.out, HMN.out]; exact HSC.out)
          rw [HORD.out, HMN.out] at hpk
          rcases hpk with ⟨-, hend⟩ | ⟨b, rfl, hob, hbN⟩
          · exfalso
            have h1 := HTF.out
            have h2 := HF2.out
            have h3 := hF0.out
            rw [List.take_of_length_le hend] at h2
            rw [h1, h2] at h3
            have h3 : nj = 0 := h3
            omega
          obtain ⟨y, hy⟩ : ∃ y, Lj[b]? = some y := ⟨Lj[b]'(by rw [HI.out.len]; exact hbN), List.getElem?_eq_getElem _⟩
          have hbI : (b : Int) < k := by omega
          obtain ⟨p0, p1, p2, p3, -⟩ := HIQ.out.cells hy
          obtain ⟨hbk, hbe, -⟩ := HIQ.out.bins y (List.mem_of_getElem? hy)
          obtain ⟨la, lc, hl⟩ := hbk.l.sl
          rw [hl] at p3
          have hin : (b : Int) ∈ ord.drop j := by
            have hb1 := List.getElem?_eq_some_iff.1 hob
            rw [← hb1.2]
            exact List.mem_drop_iff_getElem.2 ⟨0, by simpa using hb1.1, by simp⟩
          have hH := (hrow.out b y hy).2.2 hin
          have hHm := (hbe.ofs s).2
          have hOy := Lib.hid (r6OfB _ y.l y.its s hbk.l)
          rw [hl] at hOy
          have hstep := step_some (can := fun b => ofF b.its s) (nE := fun b k => ofF b.its s - k) (s := s) (M := Lj.map BV.e) (n := nj) (o := out) (i := b) (b := y.e) (by rw [List.getElem?_map, hy]; rfl)
          have hF3 : (ord.take (j + 1)).foldl ST (M, n, []) = ST (Lj.map BV.e, nj, out) (b : Int) := by
            rw [List.take_add_one, hob, List.foldl_append, HF2.out]; rfl
          rw [← HST.out, hstep, HST.out] at hF3
          have hbt := fun K h0 h1 => beok_take (b := y.e) (s := s) (k := K) hbe HGS.out h0 h1
          have hri := may_rise hbe
          have h16 := hbe.items.1
          have hSt := Lib.hid (fun W (hb : BOk W y) (m : Int) (h0 : 0 ≤ m) (h1 : m ≤ 1099511627776) => rSet W y s m hb HSS.out (by unfold okI; omega) h0 hri (by have : y.e.its.length = y.its.length := rfl; omega))
          obtain ⟨H, hHe⟩ : ∃ H, ofF y.its s = H := ⟨_, rfl⟩
          have hHe' : ofF y.e.its s = H := hHe
          rw [hHe] at hH hOy
          rw [hHe'] at hHm
          rw [hHe'] at hF3 hbt
          obtain ⟨m, hmm⟩ : ∃ m, y.its.length = m := ⟨_, rfl⟩
          rw [hmm] at p3 hOy hl
          have hcs : BV.cs y = #[.int .i64 y.nu, .int .i64 y.zo, .int .i64 y.ro, .slice la m lc] := by unfold BV.cs; rw [hl]
          rw [hcs] at hSt
          have HY := Lib.hid hy; have HL := Lib.hid hl; have HBT := Lib.hid hbt; have HF3 := Lib.hid hF3; have HOB := Lib.hid hob; have HBK := Lib.hid hbk
          have hj1 : Hid (j < ord.length) := Lib.hid (List.getElem?_eq_some_iff.1 hob).1
          have hways : (nj < H ∧ min nj H = nj) ∨ (¬ nj < H ∧ min nj H = H) := by omega
          clear hy hbk hbe hl hin hstep hF3 hbt hri h16 hHe hHe' hmm hcs hob
          rcases hways with ⟨hgt, hK⟩ | ⟨hgt, hK⟩
          · have hF4 := HF3.out
            rw [hK, if_neg (by omega)] at hF4
            have hKb : 0 < nj ∧ nj ≤ H ∧ nj ≤ nj := by omega
            have HF4 := Lib.hid hF4; have HKB := Lib.hid hKb
            have hAe : H - nj = (H - nj) := by omega
            have hNe : nj - nj = 0 := by omega
            rw [hAe, hNe] at hF4
            have HF4 := Lib.hid hF4
            have hbt2 := HBT.out nj hKb.1 hKb.2.1
            rw [hAe] at hbt2
            have HBT2 := Lib.hid hbt2
            have hwa : IntKind.i64.wrap (H - nj) = H - nj := IntWalk.i64_in _ ⟨by omega, by omega⟩
            have hwb : IntKind.i64.wrap (nj - nj) = nj - nj := IntWalk.i64_in _ ⟨by omega, by omega⟩
            have HA0 : Hid (0 ≤ (H - nj) ∧ (H - nj) ≤ 1099511627776) := Lib.hid (by omega)
            have HAE := Lib.hid hAe; have HNE := Lib.hid hNe
            clear hK hF4 hKb hAe hNe hbt2
            go_wp2_with (first
              | (go_at_call 62; refine hOy.out.mono ?_; rintro e w5 ⟨rfl, rfl⟩)
              | (go_at_call 88; refine (hSt.out _ HBK.out (H - nj) HA0.out.1 HA0.out.2).mono ?_; rintro e w10 ⟨v, rfl, hb3, hv3, hf3⟩; have hi3 := HIQ.out.keep0 hf3; obtain ⟨p0, p1, p2, p3, pf⟩ := hi3.cells HY.out; rw [HL.out] at p3; have f0 := pf (b * 4); have f1 := pf (b * 4 + 1); have f2 := pf (b * 4 + 2); have f3 := pf (b * 4 + 3); obtain ⟨va, vc, hve⟩ := hb3.l.sl; dsimp only [BV.put] at hve; subst hve; have hi4 := hi3.store HY.out hb3 HBT2.out (fun c hc => by have h1 := (hv3 c hc).1; obtain ⟨⟨cur, k1, -⟩, -⟩ := HIQ.out; have h2 := (Array.getElem?_eq_some_iff.1 k1).1; exact ⟨by omega, (fun e => by have := (HIQ.out.out.lt c e).2; omega), .inr (by have := HIQ.out.fr.size; omega)⟩); have hq0 := (hi4.cells (i := b) (x := y.put (.slice va (setF y.its s (H - nj)).length vc) s (H - nj)) (by rw [List.getElem?_set]; simp; have := (List.getElem?_eq_some_iff.1 HY.out).1; omega)).1; obtain ⟨W4, hW4⟩ : ∃ W, ((((w10.setCell ⟨r, b * 4, none⟩ (.int .i64 y.nu)).setCell ⟨r, b * 4 + 1, none⟩ (.int .i64 y.zo)).setCell ⟨r, b * 4 + 2, none⟩ (.int .i64 y.ro)).setCell ⟨r, b * 4 + 3, none⟩ (.slice va (setF y.its s (H - nj)).length vc)) = W := ⟨_, rfl⟩; have hi4' : SrI w (fun c => TS c ∧ c ≠ g) r cap k BEok W4 (Lj.set b (y.put (.slice va (setF y.its s (H - nj)).length vc) s (H - nj))) (.slice ao out.length ac) out := (by rw [← hW4]; exact hi4); have hq0 : W4.cell? ⟨r, b * 4, none⟩ = some (.int .i64 y.nu) := (by rw [← hW4]; exact hq0); have HI4 := Lib.hid hi4'; dsimp only [BV.cs, BV.put]; clear hb3 hv3 hf3 hi3 hi4 hi4' pf)
              | (at_builtin; refine wpList_append_src rfl _ _ 43 rfl w.heap.size 47 i0 (.agg #[.int .i64 0, .string ⟨#[]⟩, .int .i64 0]) 32 Tryz.underlying43 hi' hz0 hz1 hz2 rfl (by decide) (.slice ao out.length ac) out.length (flat pvC out) rfl (((Fr.refl (fun _ => False) W4).alloc _).row HI4.out.out (fun _ _ e => e)) 1 rfl (rd_obj (cs := [.int .i64 y.nu, vS s, .int .i64 nj]) (heap_new _ _) rfl) (by intro u hu; simp only [List.mem_cons, List.not_mem_nil, or_false] at hu; rcases hu with rfl | rfl | rfl <;> rfl) (by have := HOL.out; have := HJ.out; have := HORL.out; unfold maxLen; omega) (by have := HOL.out; have := HJ.out; have := HORL.out; omega) (by have := HI4.out.fr.size; simp; omega) ?_; intro v5 w5' hown5 hgrow5 hloc5; have HI5 := Lib.hid ((HI4.out.keep0 ((Fr.refl (fun _ => False) W4).alloc _)).push (p := ⟨y.nu, s, nj⟩) hown5 hgrow5 hloc5); obtain ⟨a5, c5, rfl⟩ := row_sl hown5; clear hown5 hgrow5 hloc5))
            go_roundw
            case rel =>
              refine ⟨j + 1, 0, _, out ++ [⟨y.nu, s, nj⟩], hj1.out, by first | rfl | (rw [← HNE.out]), by have := HKB.out; omega, by have := HKB.out; omega, by rw [List.length_append]; have := HOL.out; simp; omega, ?_, HI5.out, fun p hp => ?_, fun hp0 q x hq hxq => ?_⟩
              · rw [HF4.out, List.map_set]; rfl
              · rcases List.mem_append.1 hp with hp | hp
                · exact HOP.out p hp
                · rw [List.mem_singleton.1 hp]
                  exact ⟨HBK.out.nu, HSS.out, by have := HKB.out; unfold okI; dsimp only; omega⟩
              · rcases set_get hxq with ⟨rfl, rfl⟩ | ⟨hne, hx2⟩
                · have h1 := of_put (s := s) (m := (H - nj)) HBT2.out HA0.out.1
                  have h2 : (H - nj) = 0 := by omega
                  show ofF (setF y.its s (H - nj)) s = 0
                  have h1 : ofF (setF y.its s (H - nj)) s = (H - nj) := h1
                  rw [h1, h2]
                · refine HUZ.out hpos q x ?_ hx2
                  rw [List.take_add_one, HOB.out] at hq
                  rcases List.mem_append.1 hq with hq | hq
                  · exact hq
                  · simp only [Option.toList_some, List.mem_singleton] at hq
                    exact absurd (by omega) hne
            case measure => simp [intOf]; have := HKB.out; omega
          · have hF4 := HF3.out
            rw [hK, if_neg (by omega)] at hF4
            have hKb : 0 < H ∧ H ≤ H ∧ H ≤ nj := by omega
            have HF4 := Lib.hid hF4; have HKB := Lib.hid hKb
            have hAe : H - H = 0 := by omega
            have hNe : nj - H = (nj - H) := by omega
            rw [hAe, hNe] at hF4
            have HF4 := Lib.hid hF4
            have hbt2 := HBT.out H hKb.1 hKb.2.1
            rw [hAe] at hbt2
            have HBT2 := Lib.hid hbt2
            have hwa : IntKind.i64.wrap (H - H) = H - H := IntWalk.i64_in _ ⟨by omega, by omega⟩
            have hwb : IntKind.i64.wrap (nj - H) = nj - H := IntWalk.i64_in _ ⟨by omega, by omega⟩
            have HA0 : Hid ((0 : Int) ≤ 0 ∧ (0 : Int) ≤ 1099511627776) := Lib.hid (by omega)
            have HAE := Lib.hid hAe; have HNE := Lib.hid hNe
            clear hK hF4 hKb hAe hNe hbt2
            go_wp2_with (first
              | (go_at_call 62; refine hOy.out.mono ?_; rintro e w5 ⟨rfl, rfl⟩)
              | (go_at_call 88; refine (hSt.out _ HBK.out 0 HA0.out.1 HA0.out.2).mono ?_; rintro e w10 ⟨v, rfl, hb3, hv3, hf3⟩; have hi3 := HIQ.out.keep0 hf3; obtain ⟨p0, p1, p2, p3, pf⟩ := hi3.cells HY.out; rw [HL.out] at p3; have f0 := pf (b * 4); have f1 := pf (b * 4 + 1); have f2 := pf (b * 4 + 2); have f3 := pf (b * 4 + 3); obtain ⟨va, vc, hve⟩ := hb3.l.sl; dsimp only [BV.put] at hve; subst hve; have hi4 := hi3.store HY.out hb3 HBT2.out (fun c hc => by have h1 := (hv3 c hc).1; obtain ⟨⟨cur, k1, -⟩, -⟩ := HIQ.out; have h2 := (Array.getElem?_eq_some_iff.1 k1).1; exact ⟨by omega, (fun e => by have := (HIQ.out.out.lt c e).2; omega), .inr (by have := HIQ.out.fr.size; omega)⟩); have hq0 := (hi4.cells (i := b) (x := y.put (.slice va (setF y.its s 0).length vc) s 0) (by rw [List.getElem?_set]; simp; have := (List.getElem?_eq_some_iff.1 HY.out).1; omega)).1; obtain ⟨W4, hW4⟩ : ∃ W, ((((w10.setCell ⟨r, b * 4, none⟩ (.int .i64 y.nu)).setCell ⟨r, b * 4 + 1, none⟩ (.int .i64 y.zo)).setCell ⟨r, b * 4 + 2, none⟩ (.int .i64 y.ro)).setCell ⟨r, b * 4 + 3, none⟩ (.slice va (setF y.its s 0).length vc)) = W := ⟨_, rfl⟩; have hi4' : SrI w (fun c => TS c ∧ c ≠ g) r cap k BEok W4 (Lj.set b (y.put (.slice va (setF y.its s 0).length vc) s 0)) (.slice ao out.length ac) out := (by rw [← hW4]; exact hi4); have hq0 : W4.cell? ⟨r, b * 4, none⟩ = some (.int .i64 y.nu) := (by rw [← hW4]; exact hq0); have HI4 := Lib.hid hi4'; dsimp only [BV.cs, BV.put]; clear hb3 hv3 hf3 hi3 hi4 hi4' pf)
              | (at_builtin; refine wpList_append_src rfl _ _ 43 rfl w.heap.size 47 i0 (.agg #[.int .i64 0, .string ⟨#[]⟩, .int .i64 0]) 32 Tryz.underlying43 hi' hz0 hz1 hz2 rfl (by decide) (.slice ao out.length ac) out.length (flat pvC out) rfl (((Fr.refl (fun _ => False) W4).alloc _).row HI4.out.out (fun _ _ e => e)) 1 rfl (rd_obj (cs := [.int .i64 y.nu, vS s, .int .i64 H]) (heap_new _ _) rfl) (by intro u hu; simp only [List.mem_cons, List.not_mem_nil, or_false] at hu; rcases hu with rfl | rfl | rfl <;> rfl) (by have := HOL.out; have := HJ.out; have := HORL.out; unfold maxLen; omega) (by have := HOL.out; have := HJ.out; have := HORL.out; omega) (by have := HI4.out.fr.size; simp; omega) ?_; intro v5 w5' hown5 hgrow5 hloc5; have HI5 := Lib.hid ((HI4.out.keep0 ((Fr.refl (fun _ => False) W4).alloc _)).push (p := ⟨y.nu, s, H⟩) hown5 hgrow5 hloc5); obtain ⟨a5, c5, rfl⟩ := row_sl hown5; clear hown5 hgrow5 hloc5))
            go_roundw
            case rel =>
              refine ⟨j + 1, (nj - H), _, out ++ [⟨y.nu, s, H⟩], hj1.out, by first | rfl | (rw [← HNE.out]), by have := HKB.out; omega, by have := HKB.out; omega, by rw [List.length_append]; have := HOL.out; simp; omega, ?_, HI5.out, fun p hp => ?_, fun hp0 q x hq hxq => ?_⟩
              · rw [HF4.out, List.map_set]; rfl
              · rcases List.mem_append.1 hp with hp | hp
                · exact HOP.out p hp
                · rw [List.mem_singleton.1 hp]
                  exact ⟨HBK.out.nu, HSS.out, by have := HKB.out; unfold okI; dsimp only; omega⟩
              · rcases set_get hxq with ⟨rfl, rfl⟩ | ⟨hne, hx2⟩
                · have h1 := of_put (s := s) (m := 0) HBT2.out HA0.out.1
                  have h2 : 0 = 0 := by omega
                  show ofF (setF y.its s 0) s = 0
                  have h1 : ofF (setF y.its s 0) s = 0 := h1
                  rw [h1]
                · refine HUZ.out hpos q x ?_ hx2
                  rw [List.take_add_one, HOB.out] at hq
                  rcases List.mem_append.1 hq with hq | hq
                  · exact hq
                  · simp only [Option.toList_some, List.mem_singleton] at hq
                    exact absurd (by omega) hne
            case measure => simp [intOf]; have := HKB.out; omega
    · have hz : nj = 0 := by omega
      have hres : takeF M s n = (Lj.map BV.e, nj, out) := by rw [HTF.out, ← HST.out]; exact fold_split (by rw [HST.out]; exact HF2.out) (by omega)
      have HRES := Lib.hid hres
      obtain ⟨-, gz, ⟨gv, gc⟩, -⟩ := SrI.done HA.out HN.out HI.out HCM.out
      clear hz hres
      go_wp2_with fail
      rw [← HPP.out, HRES.out]
      have hfin := SrI.fin HA.out HN.out HI.out HCM.out (M := Lj.map BV.e) rfl
      obtain ⟨-, -, -, -, hfs⟩ := SrI.done HA.out HN.out HI.out HCM.out
      obtain ⟨L', TS', k1, k2, k3⟩ := hfin
      refine .inr ⟨by dsimp only; omega, _, L', TS', rfl, ?_, k1, k2, k3⟩
      refine Sq.own pvSize (hfs.row HI.out.out (fun b hb e => ?_)) (fun p hp => HOP.out p hp)
      have h1 := (HI.out.out.lt b hb).1
      have h2 := HA.out.lt g HA.out.own
      have e : b = g := e
      omega
end Go.Proofs.YtefjdcghdcbojaaGreat

namespace Go.Proofs.YtefjdcghdcbojaaGreat
open Go.RowKit Go.Maps
end Go.Proofs.YtefjdcghdcbojaaGreat

namespace Go.Proofs.YtefjdcghdcbojaaGreat
open Go.RowKit Go.Maps
/-- The document's maker at g, whose row lies from block B on. -/
structure RK (w : World) (g B : Nat) (s : List Int × Bool) : Prop where
  ex : ∃ v, w.heap[g]? = some (.cells #[v, .bool s.2] 108) ∧ w.ownsRow B 5 1 v s.1.length (u8s s.1) ∧ ∀ b, v.ownBlock = some b → b ≠ g
  low : B ≤ g
  len : (s.1.length : Int) ≤ 262144
theorem RK.fr {S : Nat → Prop} {w w' : World} {g B : Nat} {s : List Int × Bool} (h : RK w g B s) (hf : Fr S w w') (hS : ∀ b, B ≤ b → ¬ S b) : RK w' g B s := by
  obtain ⟨⟨v, h1, h2, h3⟩, h5, h6⟩ := h
  refine ⟨⟨v, hf.at_ h1 (hS _ h5), hf.row h2 (fun b hb => hS _ ?_), h3⟩, h5, h6⟩
  rcases h2.2 with ⟨rfl, _⟩ | ⟨g', c, cur, rfl, hb', _⟩
  · cases hb
  · cases hb; exact hb'
theorem RK.lt {w : World} {g B : Nat} {s : List Int × Bool} (h : RK w g B s) : g < w.heap.size := by
  obtain ⟨⟨v, h1, -⟩, -⟩ := h
  exact (Array.getElem?_eq_some_iff.1 h1).1
theorem RK.new (w : World) : RK (w.alloc (.cells #[.slice none 0 0, .bool false] 108)) w.heap.size w.heap.size ([], false) :=
  ⟨⟨_, heap_new _ _, World.ownsRow_nil _ _ _ _, fun b hb => by cases hb⟩, Nat.le_refl _, by simp⟩
end Go.Proofs.YtefjdcghdcbojaaGreat

namespace Go.Proofs.YtefjdcghdcbojaaGreat
open Go.RowKit Go.Maps
end Go.Proofs.YtefjdcghdcbojaaGreat

namespace Go.Proofs.YtefjdcghdcbojaaGreat
open Go.RowKit Go.Maps
end Go.Proofs.YtefjdcghdcbojaaGreat

namespace Go.Proofs.YtefjdcghdcbojaaGreat
open Go.RowKit Go.Maps
/-- The document's taker: its bytes lie in a block of K, which nobody changes. -/
structure TR (w : World) (g : Nat) (K : Nat → Prop) (bs : List Int) (bad : Bool) : Prop where
  ex : ∃ v, w.heap[g]? = some (.cells #[v, .bool bad] 68) ∧ Bs w v bs ∧ (∀ a n c, v = .slice a n c → n ≤ c) ∧ ∀ b, v.ownBlock = some b → K b ∧ b ≠ g
theorem TR.lt {w : World} {g : Nat} {K : Nat → Prop} {bs : List Int} {bad : Bool} (h : TR w g K bs bad) : g < w.heap.size := by
  obtain ⟨v, h1, _⟩ := h
  exact (Array.getElem?_eq_some_iff.1 h1).1
theorem TR.fr {S K : Nat → Prop} {w w' : World} {g : Nat} {bs : List Int} {bad : Bool} (h : TR w g K bs bad) (hf : Fr S w w') (hg : ¬ S g) (hS : ∀ b, K b → ¬ S b) : TR w' g K bs bad := by
  obtain ⟨v, h1, h2, h3, h4⟩ := h
  exact ⟨v, hf.at_ h1 hg, h2.keep hf (fun b hb => hS _ (h4 b hb).1), h3, h4⟩
end Go.Proofs.YtefjdcghdcbojaaGreat

namespace Go.Proofs.YtefjdcghdcbojaaGreat
open Go.RowKit Go.Maps
end Go.Proofs.YtefjdcghdcbojaaGreat

namespace Go.Proofs.YtefjdcghdcbojaaGreat
open Go.RowKit Go.Maps
end Go.Proofs.YtefjdcghdcbojaaGreat

namespace Go.Proofs.YtefjdcghdcbojaaGreat
open Go.RowKit Go.Maps
end Go.Proofs.YtefjdcghdcbojaaGreat

namespace Go.Proofs.YtefjdcghdcbojaaGreat
open Go.RowKit Go.Maps
end Go.Proofs.YtefjdcghdcbojaaGreat

namespace Go.Proofs.YtefjdcghdcbojaaGreat
open Go.RowKit Go.Maps
/-- What Pack has laid so far. -/
structure Rp (w W : World) (n0 : Nat) (bs : List Int) : Prop where
  rk : RK W n0 n0 (bs, false)
  fr : Fr (fun _ => False) w W
theorem Rp.step {w W W' : World} {n0 : Nat} {bs bs' : List Int} (h : Rp w W n0 bs) (hn : w.heap.size = n0) (hk : RK W' n0 n0 (bs', false)) (hf : Fr (fun b => b = n0) W W') : Rp w W' n0 bs' :=
  ⟨hk, h.fr.trans' hf (fun b hb e => by omega)⟩
end Go.Proofs.YtefjdcghdcbojaaGreat

namespace Go.Proofs.YtefjdcghdcbojaaGreat
open Go.RowKit Go.Maps
end Go.Proofs.YtefjdcghdcbojaaGreat

