/- Texts of this claim, joined: bins: Bins, as an iterator; bins: no floor; lives; entrepotref06: Of; entrepotref27: left, Left, kind, takes, may, Of; entrepotref27: set; entrepotref27: rows that are a copy of a floor's, while they are turned; entrepotref27: May; entrepotref27: New; Plain: floors stay floors; bins' laws: floor. -/
import Derived.Test.YtefjdcghdcbojaaGreatBinsBackM1
import Derived.Test.YtefjdcghdcbojaaGreatBinsBackM8
import Derived.Test.YtefjdcghdcbojaaGreatBinsBackM7
import Derived.Test.YtefjdcghdcbojaaGreatBinsBackM9
import Derived.Test.YtefjdcghdcbojaaGreatBinsBackM3
import Derived.Test.YtefjdcghdcbojaaGreatBinsBackM2
import Derived.Test.YtefjdcghdcbojaaGreatBinsBackM4
import Derived.Deep.QuietTactic
namespace Go.Proofs.YtefjdcghdcbojaaGreat
open Go.RowKit Go.Maps
theorem Fl.fr {S : Nat → Prop} {W W' : World} {g : Nat} {L : List BV} (h : Fl W g L) (hf : Fr S W W') (hS : ∀ b, S b → W.heap.size ≤ b) : Fl W' g L := by
  obtain ⟨a, c, h1, h2⟩ := h
  exact ⟨a, c, hf.at_ h1 (fun e => by have := (Array.getElem?_eq_some_iff.1 h1).1; have := hS g e; omega), h2.fr bokKeeps hf hS⟩
theorem bBins (w : World) (p : Option Addr) : Calls Tryz.prog 28 #[.pointer p] w fun e w' => e = .returned (.func (.func 76) #[] #[.pointer (some ⟨w.heap.size, 0, none⟩)]) ∧ w' = w.alloc (.cells #[.pointer p] 23) := by
  go_enter Tryz.func28, Tryz.ntmps28
  go_wp2
  go_ret
  exact ⟨rfl, rfl⟩
end Go.Proofs.YtefjdcghdcbojaaGreat

namespace Go.Proofs.YtefjdcghdcbojaaGreat
open Go.RowKit Go.Maps
end Go.Proofs.YtefjdcghdcbojaaGreat

namespace Go.Proofs.YtefjdcghdcbojaaGreat
open Go.RowKit Go.Maps
def sumE (M : List BE) (s : Str) : Int := M.foldl (fun a b => wrap64 (a + ofF b.its s)) 0
theorem sumE_e (L : List BV) (s : Str) : sumF L s = sumE (L.map BV.e) s := by
  unfold sumF sumE
  rw [List.foldl_map]
  rfl
def leftNE (M : List BE) (n : Int) : Int := match binE M n with | some b => leftE b | none => 0
theorem leftNE_e (L : List BV) (n : Int) : leftN L n = leftNE (L.map BV.e) n := by
  unfold leftN leftNE
  rw [binE_e]
  cases binF L n <;> rfl
def beokB (x : BE) : Bool := decide (1 ≤ x.nu) && decide (x.nu ≤ 4096) && decide (0 ≤ x.zo) && decide (x.zo ≤ 15) && decide (1 ≤ x.ro) && decide (x.ro ≤ 1099511627776) && mayL x.its && decide (sumI x.its ≤ x.ro)
theorem beok_of {x : BE} (h : beokB x = true) : BEok x := by
  unfold beokB at h
  simp only [Bool.and_eq_true, decide_eq_true_eq] at h
  obtain ⟨⟨⟨⟨⟨⟨⟨h1, h2⟩, h3⟩, h4⟩, h5⟩, h6⟩, h7⟩, h8⟩ := h
  exact ⟨⟨h1, h2⟩, ⟨h3, h4⟩, ⟨h5, h6⟩, h7, h8⟩
theorem beoks_of {M : List BE} (h : (M.all beokB) = true) : ∀ x ∈ M, BEok x := fun x hx => beok_of (List.all_eq_true.1 h x hx)
def lv0 : List BE := [⟨1, 0, 5, []⟩, ⟨2, 1, 3, []⟩]
def lv1 : List BE := [⟨1, 0, 5, [([97], 2)]⟩, ⟨2, 1, 3, []⟩]
def lv2 : List BE := [⟨1, 0, 5, [([97], 5)]⟩, ⟨2, 1, 3, [([97], 2)]⟩]
def lv3 : List BE := [⟨1, 0, 5, [([97], 4)]⟩, ⟨2, 1, 3, []⟩]
theorem lvP1 : putF lv0 [97] 2 = (lv1, 0, [⟨1, [97], 2⟩]) := by kernel_rfl
theorem lvP2 : putF lv1 [97] 5 = (lv2, 0, [⟨1, [97], 3⟩, ⟨2, [97], 2⟩]) := by kernel_rfl
theorem lvP3 : (putF lv2 [97] 2).2.1 = 1 := by kernel_rfl
theorem lvT : takeF lv2 [97] 3 = (lv3, 0, [⟨2, [97], 2⟩, ⟨1, [97], 1⟩]) := by kernel_rfl
theorem lvU : unpackE (packE lv3) = some lv3 := by kernel_rfl
theorem lvO : sumE lv3 [97] = 4 := by kernel_rfl
theorem lvL : leftNE lv3 1 = 1 := by kernel_rfl
theorem lvW : wayE lv3 [⟨1, [97], 3⟩, ⟨2, [97], 2⟩] = 102 := by kernel_rfl
theorem lvB : mayBs [⟨1, 0, 5⟩, ⟨2, 1, 3⟩] = true := by kernel_rfl
theorem lvM2 : mayF [97] 2 = 0 := by kernel_rfl
theorem lvM5 : mayF [97] 5 = 0 := by kernel_rfl
theorem lvM3 : mayF [97] 3 = 0 := by kernel_rfl
theorem lv0k : ∀ x ∈ lv0, BEok x := beoks_of (by kernel_rfl)
theorem lv1k : ∀ x ∈ lv1, BEok x := beoks_of (by kernel_rfl)
theorem lv2k : ∀ x ∈ lv2, BEok x := beoks_of (by kernel_rfl)
theorem lv3k : ∀ x ∈ lv3, BEok x := beoks_of (by kernel_rfl)
/-- A literal row, as bins that are asked for. -/
theorem sbi_new {w : World} {B : List BI} {n : Nat} (hn : B.length = n) (hm : n ≤ maxLen) (hB : ∀ b ∈ B, okI b.nu ∧ okI b.zo ∧ okI b.ro) : Sbi (w.alloc (.cells (flat biC B).toArray 56)) (.slice (some ⟨w.heap.size, 0, none⟩) n n) B := by
  subst hn
  refine Sq.own biSize (base := 0) ⟨flat_len1 biSize B, .inr ⟨w.heap.size, B.length, (flat biC B).toArray, rfl, Nat.zero_le _, heap_new _ _, Nat.le_refl _, hm, by rw [List.size_toArray, flat_len1 biSize], ?_⟩⟩ hB
  rw [List.take_of_length_le (by rw [flat_len1 biSize]; exact Nat.le_refl _)]
theorem neq_place (w : World) (p q : PV) : (binOp .neq 47 (.agg #[.int .i64 p.b, vS p.g, .int .i64 p.n]) (.agg #[.int .i64 q.b, vS q.g, .int .i64 q.n])).run Tryz.prog w = .ok (.bool (!(decide (p.b = q.b) && (decide (p.g = q.g) && decide (p.n = q.n))))) w := by
  by_cases h1 : p.b = q.b <;> by_cases h2 : p.g = q.g <;> by_cases h3 : p.n = q.n <;> simp [go_sem, h1, h2, h3]
theorem eql_place (w : World) (a n : Int) (s : Str) : (binOp .eql 47 (.agg #[.int .i64 a, vS s, .int .i64 n]) (.agg #[.int .i64 a, vS s, .int .i64 n])).run Tryz.prog w = .ok (.bool true) w := by
  simp [go_sem]
/-- A floor of the law's own, as it stands. -/
structure FS (w W : World) (g : Nat) (M : List BE) : Prop where
  ex : ∃ TS L, FA W g TS L ∧ L.map BV.e = M ∧ ∀ b, TS b → w.heap.size ≤ b
  fr : Fr (fun _ => False) w W
  ok : ∀ x ∈ M, BEok x
  len : 0 < M.length ∧ M.length ≤ 64
section
variable {w W W' : World} {g : Nat} {M : List BE}
theorem FS.keep (h : FS w W g M) (hf : Fr (fun _ => False) W W') : FS w W' g M := by
  obtain ⟨⟨TS, L, h1, h2, h3⟩, h4, h5, h6⟩ := h
  exact ⟨⟨TS, L, h1.fr hf (fun _ _ e => e), h2, h3⟩, h4.trans hf, h5, h6⟩
theorem FS.lt (h : FS w W g M) : w.heap.size ≤ g ∧ g < W.heap.size := by
  obtain ⟨⟨TS, L, h1, h2, h3⟩, h4, h5, h6⟩ := h
  exact ⟨h3 g h1.own, h1.lt g h1.own⟩
theorem map_len {L : List BV} (h : L.map BV.e = M) : L.length = M.length := by rw [← h, List.length_map]
theorem FS.fl (h : FS w W g M) : ∃ L, Fl W g L ∧ L.map BV.e = M ∧ 0 < L.length ∧ L.length ≤ 64 := by
  obtain ⟨⟨TS, L, h1, h2, h3⟩, h4, h5, h6⟩ := h
  exact ⟨L, h1.fl, h2, by rw [map_len h2]; exact h6.1, by rw [map_len h2]; exact h6.2⟩
theorem FS.put {s : Str} {n : Int} {M' : List BE} {r : Int} {out : List PV} (h : FS w W g M) (hm : mayF s n = 0) (hF : putF M s n = (M', r, out)) (hok : ∀ x ∈ M', BEok x) (hlen : M'.length = M.length) : Calls Tryz.prog 15 #[.pointer (some ⟨g, 0, none⟩), vS s, .int .i64 n] W fun e W' =>
    (0 < r ∧ e = .returned (.tuple #[.slice none 0 0, .int .i64 2]) ∧ FS w W' g M ∧ Fr (fun _ => False) W W') ∨
    (r ≤ 0 ∧ ∃ v, e = .returned (.tuple #[v, .int .i64 0]) ∧ Pl W' v out ∧ (∀ b, v.ownBlock = some b → W.heap.size ≤ b) ∧ FS w W' g M' ∧ Fr (fun c => c = g) W W') := by
  have hk := h
  obtain ⟨⟨TS, L, h1, h2, h3⟩, h4, h5, h6⟩ := h
  have hl := map_len h2
  refine (bPut W g TS L s n h1 (by rw [h2]; exact h5) (by omega) (by omega) hm).mono ?_
  intro e W' hP
  rw [h2, hF] at hP
  rcases hP with ⟨p1, p2, p3⟩ | ⟨p1, v, L', TS', p2, p3, p4, p5, p6, p7, p8⟩
  · exact .inl ⟨p1, p2, hk.keep p3, p3⟩
  · have hg := h3 g h1.own
    exact .inr ⟨p1, v, p2, p3, p4, ⟨⟨TS', L', p5, p6, fun b hb => (p8 b hb).elim (h3 b) (fun e => Nat.le_trans h4.size e)⟩, h4.trans' p7 (fun b hb e => by have e : b = g := e; omega), hok, by rw [hlen]; exact h6⟩, p7⟩
theorem FS.take {s : Str} {n : Int} {M' : List BE} {r : Int} {out : List PV} (h : FS w W g M) (hm : mayF s n = 0) (hF : takeF M s n = (M', r, out)) (hok : ∀ x ∈ M', BEok x) (hlen : M'.length = M.length) : Calls Tryz.prog 16 #[.pointer (some ⟨g, 0, none⟩), vS s, .int .i64 n] W fun e W' =>
    (0 < r ∧ e = .returned (.tuple #[.slice none 0 0, .int .i64 51]) ∧ FS w W' g M ∧ Fr (fun _ => False) W W') ∨
    (r ≤ 0 ∧ ∃ v, e = .returned (.tuple #[v, .int .i64 0]) ∧ Pl W' v out ∧ (∀ b, v.ownBlock = some b → W.heap.size ≤ b) ∧ FS w W' g M' ∧ Fr (fun c => c = g) W W') := by
  have hk := h
  obtain ⟨⟨TS, L, h1, h2, h3⟩, h4, h5, h6⟩ := h
  have hl := map_len h2
  refine (bTake W g TS L s n h1 (by rw [h2]; exact h5) (by omega) (by omega) hm).mono ?_
  intro e W' hP
  rw [h2, hF] at hP
  rcases hP with ⟨p1, p2, p3⟩ | ⟨p1, v, L', TS', p2, p3, p4, p5, p6, p7, p8⟩
  · exact .inl ⟨p1, p2, hk.keep p3, p3⟩
  · have hg := h3 g h1.own
    exact .inr ⟨p1, v, p2, p3, p4, ⟨⟨TS', L', p5, p6, fun b hb => (p8 b hb).elim (h3 b) (fun e => Nat.le_trans h4.size e)⟩, h4.trans' p7 (fun b hb e => by have e : b = g := e; omega), hok, by rw [hlen]; exact h6⟩, p7⟩
theorem FS.put_full {s : Str} {n : Int} (h : FS w W g M) (hm : mayF s n = 0) (hF : 0 < (putF M s n).2.1) : Calls Tryz.prog 15 #[.pointer (some ⟨g, 0, none⟩), vS s, .int .i64 n] W fun e W' => e = .returned (.tuple #[.slice none 0 0, .int .i64 2]) ∧ Fr (fun _ => False) W W' := by
  obtain ⟨⟨TS, L, h1, h2, h3⟩, h4, h5, h6⟩ := h
  have hl := map_len h2
  refine (bPut W g TS L s n h1 (by rw [h2]; exact h5) (by omega) (by omega) hm).mono ?_
  intro e W' hP
  rw [h2] at hP
  rcases hP with ⟨p1, p2, p3⟩ | ⟨p1, -⟩
  · exact ⟨p2, p3⟩
  · omega
theorem FS.take_less {s : Str} {n : Int} (h : FS w W g M) (hm : mayF s n = 0) (hF : 0 < (takeF M s n).2.1) : Calls Tryz.prog 16 #[.pointer (some ⟨g, 0, none⟩), vS s, .int .i64 n] W fun e W' => e = .returned (.tuple #[.slice none 0 0, .int .i64 51]) ∧ Fr (fun _ => False) W W' := by
  obtain ⟨⟨TS, L, h1, h2, h3⟩, h4, h5, h6⟩ := h
  have hl := map_len h2
  refine (bTake W g TS L s n h1 (by rw [h2]; exact h5) (by omega) (by omega) hm).mono ?_
  intro e W' hP
  rw [h2] at hP
  rcases hP with ⟨p1, p2, p3⟩ | ⟨p1, -⟩
  · exact ⟨p2, p3⟩
  · omega
theorem FS.of (h : FS w W g M) (s : Str) : Calls Tryz.prog 14 #[.pointer (some ⟨g, 0, none⟩), vS s] W fun e W' => e = .returned (.int .i64 (sumE M s)) ∧ Fr (fun _ => False) W W' := by
  obtain ⟨L, h1, h2, h3, -⟩ := h.fl
  have := bOfAll W g L s h1 h3
  rw [sumE_e, h2] at this
  exact this
theorem FS.left (h : FS w W g M) (n : Int) : Calls Tryz.prog 29 #[.pointer (some ⟨g, 0, none⟩), .int .i64 n] W fun e W' => e = .returned (.int .i64 (leftNE M n)) ∧ Fr (fun _ => False) W W' := by
  obtain ⟨L, h1, h2, h3, -⟩ := h.fl
  have := bLeftN W g L n h1 h3
  rw [leftNE_e, h2] at this
  exact this
theorem FS.way (h : FS w W g M) {v : Value} {l : List PV} (hp : Pl W v l) (hl : l.length ≤ 100000000) : Calls Tryz.prog 30 #[.pointer (some ⟨g, 0, none⟩), v] W fun e W' => e = .returned (.int .i64 (wayE M l)) ∧ Fr (fun _ => False) W W' := by
  obtain ⟨L, h1, h2, h3, -⟩ := h.fl
  have := bWay W g v L l h1 h3 (by rw [h2]; exact h.ok) hp hl
  rw [h2] at this
  exact this
theorem FS.pack (h : FS w W g M) : Calls Tryz.prog 10 #[.pointer (some ⟨g, 0, none⟩)] W fun e W' => ∃ v, e = .returned v ∧ Bs W' v (packE M) ∧ (∀ b, v.ownBlock = some b → W.heap.size ≤ b) ∧ Fr (fun _ => False) W W' := by
  obtain ⟨L, h1, h2, h3, h4⟩ := h.fl
  refine (bPack W g L h1 h3 h4 (by rw [h2]; exact h.ok)).mono ?_
  rintro e W' ⟨v, rfl, ho, hf⟩
  rw [h2] at ho
  have := Bs.own ho (packE_byt (by have := h.len; omega) h.ok)
  exact ⟨v, rfl, this.1, fun b hb => this.2 b hb, hf⟩
end
set_option maxRecDepth 100000 in
set_option maxHeartbeats 8000000 in
theorem lLives (w : World) : Calls Tryz.prog 8 #[] w fun e w' => e = .returned (.bool true) ∧ Fr (fun _ => False) w w' := by
  have hS : Sbi (w.alloc (.cells #[.int .i64 1, .int .i64 0, .int .i64 5, .int .i64 2, .int .i64 1, .int .i64 3] 56)) (.slice (some ⟨w.heap.size, 0, none⟩) 2 2) [⟨1, 0, 5⟩, ⟨2, 1, 3⟩] := sbi_new (n := 2) rfl (by decide) (by intro b hb; simp only [List.mem_cons, List.not_mem_nil, or_false] at hb; rcases hb with rfl | rfl <;> (unfold okI; dsimp only; omega))
  have HS := Lib.hid hS
  have hnil := fun (w : World) (f : Fn) (x y : Array Value) => run_eql_func_nil (P := Tryz.prog) w 77 _ _ _ f x y Tryz.underlying77
  clear hS
  go_enter Tryz.func8, Tryz.ntmps8
  go_wp2_with fail
  refine (bNew _ _ _ HS.out).mono ?_
  rintro e w1 ⟨hf1, ⟨hm, -⟩ | ⟨-, g, TS, L, rfl, hFA, hLm, hTS⟩⟩
  · rw [lvB] at hm; cases hm
  have hf1' : Fr (fun _ => False) w w1 := ((Fr.refl _ w).alloc _).trans hf1
  have H0 : Hid (FS w w1 g lv0) := Lib.hid ⟨⟨TS, L, hFA, hLm, fun b hb => by have := hTS b hb; simp at this; omega⟩, hf1', lv0k, by decide⟩
  clear hf1 hf1' hFA hLm hTS HS
  go_wp2_with (go_at_call 28; refine (bBins _ _).mono ?_; rintro e w2 ⟨rfl, rfl⟩)
  have H0 := Lib.hid (H0.out.keep ((Fr.refl _ w1).alloc (.cells #[.pointer (some ⟨g, 0, none⟩)] 23)))
  refine (H0.out.put (s := [97]) (n := 2) lvM2 lvP1 lv1k rfl).mono ?_
  rintro e w2 (⟨h, -⟩ | ⟨-, v1, rfl, hp1, ho1, h1, hf1⟩)
  · omega
  obtain ⟨a1, c1, rfl⟩ := hp1.sl
  have H1 := Lib.hid h1
  clear hp1 ho1 h1 hf1
  dsimp only [List.length_cons, List.length_nil]
  go_wp2_with fail
  refine (H1.out.put (s := [97]) (n := 5) lvM5 lvP2 lv2k rfl).mono ?_
  rintro e w3 (⟨h, -⟩ | ⟨-, v2, rfl, hp2, ho2, h2, hf2⟩)
  · omega
  obtain ⟨a2, c2, rfl⟩ := hp2.sl
  have hg2 := H1.out.lt
  have HP2 := Lib.hid hp2; have H2 := Lib.hid h2
  have HO2 : Hid (∀ b, (Value.slice a2 [PV.mk 1 [97] 3, PV.mk 2 [97] 2].length c2).ownBlock = some b → ¬ (fun c => c = g) b) := Lib.hid (fun b hb e => by have e : b = g := e; have := ho2 b hb; omega)
  clear hp2 ho2 h2 hf2 hg2
  dsimp only [List.length_cons, List.length_nil] at HP2 HO2 ⊢
  go_wp2_with fail
  refine (H2.out.put_full (s := [97]) (n := 2) lvM2 (by rw [lvP3]; decide)).mono ?_
  rintro e w4 ⟨rfl, hf4⟩
  have H3 := Lib.hid (H2.out.keep hf4)
  have HP3 := Lib.hid (HP2.out.fr0 okPvKeeps hf4)
  clear hf4
  go_wp2_with fail
  refine (H3.out.take (s := [97]) (n := 3) lvM3 lvT lv3k rfl).mono ?_
  rintro e w5 (⟨h, -⟩ | ⟨-, v4, rfl, hp4, ho4, h4, hf4⟩)
  · omega
  obtain ⟨a4, c4, rfl⟩ := hp4.sl
  have H4 := Lib.hid h4
  have HP4 := Lib.hid hp4
  have HP2 := Lib.hid (Pl.keep HP3.out hf4 HO2.out)
  clear hp4 ho4 h4 hf4
  dsimp only [List.length_cons, List.length_nil] at HP4 ⊢
  go_wp2_with fail
  refine H4.out.pack.mono ?_
  rintro e w6 ⟨v6, rfl, hb6, -, hf6⟩
  have HB6 := Lib.hid hb6
  have H5 := Lib.hid (H4.out.keep hf6)
  have HP4 := Lib.hid (HP4.out.fr0 okPvKeeps hf6)
  have HP2 := Lib.hid (HP2.out.fr0 okPvKeeps hf6)
  clear hb6 hf6
  go_wp2_with fail
  refine (bUnpack w6 v6 (packE lv3) HB6.out (by decide) (packE_byt (by decide) lv3k)).mono ?_
  rintro e w7 ⟨hf7, hZ⟩
  rw [lvU] at hZ
  obtain ⟨g7, TS7, L7, rfl, -⟩ := hZ
  have H6 := Lib.hid (H5.out.keep hf7)
  have HP4 := Lib.hid (HP4.out.fr0 okPvKeeps hf7)
  have HP2 := Lib.hid (HP2.out.fr0 okPvKeeps hf7)
  clear hf7
  obtain ⟨ad2, rfl, -, y0, ys⟩ := HP2.out.at_ (i := 1) (r := ⟨2, [97], 2⟩) rfl
  have y0 := y0 (.int .i64 2) rfl; have y1 := ys 0 (vS [97]) rfl; have y2 := ys 1 (.int .i64 2) rfl
  obtain ⟨ad4, rfl, -, z0, -⟩ := HP4.out.at_ (i := 0) (r := ⟨2, [97], 2⟩) rfl
  have z0 := z0 (.int .i64 2) rfl
  have heq := fun W => eql_place W 2 2 [97]
  clear ys
  dsimp only [Nat.reduceMul, Nat.zero_add, Nat.reduceAdd] at y0 y1 y2 z0
  have e3 : ad2.add 3 = ⟨ad2.block, ad2.off + 3, none⟩ := by unfold Addr.add; simp
  have e0 : ad4.add 0 = ad4 := by unfold Addr.add; simp
  rw [e3] at y0 y1 y2
  rw [e0] at z0
  clear e3 e0
  dsimp only [vS] at y1 heq
  go_wp2_with fail
  refine (H6.out.of [97]).mono ?_
  rw [lvO]
  rintro e w8 ⟨rfl, hf8⟩
  have H7 := Lib.hid (H6.out.keep hf8)
  have HP2 := Lib.hid (HP2.out.fr0 okPvKeeps hf8)
  clear hf8
  go_wp2_with fail
  refine (H7.out.left 1).mono ?_
  rw [lvL]
  rintro e w9 ⟨rfl, hf9⟩
  have H8 := Lib.hid (H7.out.keep hf9)
  have HP2 := Lib.hid (HP2.out.fr0 okPvKeeps hf9)
  clear hf9
  go_wp2_with fail
  refine (H8.out.way HP2.out (by decide)).mono ?_
  rw [lvW]
  rintro e w10 ⟨rfl, hf10⟩
  have HF10 := Lib.hid (H8.out.fr.trans hf10)
  clear hf10
  go_wp2_with fail
  go_ret
  exact ⟨rfl, HF10.out⟩
end Go.Proofs.YtefjdcghdcbojaaGreat

namespace Go.Proofs.YtefjdcghdcbojaaGreat
open Go.RowKit Go.Maps
set_option maxRecDepth 100000 in
set_option maxHeartbeats 2000000 in
theorem r6OfB (w : World) (v : Value) (L : Its) (s : Str) (h : Il w v L) : Calls Tryz.prog 62 #[v, vS s] w fun e w' => e = .returned (.int .i64 (ofF L s)) ∧ w = w' := by
  obtain ⟨a, c, rfl⟩ := h.sl
  obtain ⟨N, hN⟩ : ∃ N, L.length = N := ⟨_, rfl⟩
  have hNb : (N : Int) ≤ 9223372036854775807 := by have := h.1; omega
  have HL := Lib.hid h; have HN := Lib.hid hN
  rw [hN] at HL ⊢
  clear h hN
  go_enter Tryz.func62, Tryz.ntmps62
  go_wp2_with fail
  go_loop [5, 6] (fun n i => ∃ k : Nat, k ≤ N ∧ i = .int .i64 k ∧ n = .int .i64 (ofF (L.take k) s)) (fun _ i => N - (intOf i).toNat)
  case atStart => exact ⟨0, Nat.zero_le _, rfl, rfl⟩
  case round =>
    obtain ⟨k, hk, rfl, rfl⟩ := hrel
    by_cases hlt : k < N
    · obtain ⟨p, hp⟩ : ∃ p, L[k]? = some p := ⟨L[k]'(by rw [HN.out]; exact hlt), List.getElem?_eq_getElem _⟩
      obtain ⟨ad, rfl, -, -, x0, x1⟩ := HL.out.at_ hp
      have hlI : (k : Int) < N := by omega
      have HS := Lib.hid (ofF_take s hp)
      obtain ⟨A, hA⟩ : ∃ A, ofF (L.take k) s = A := ⟨_, rfl⟩
      rw [hA] at HS ⊢
      obtain ⟨g, n⟩ := p
      dsimp only at x0 x1
      clear hp hA
      by_cases hg : g = s
      · have q1 : (g == s) = true := by simpa using hg
        have HG := Lib.hid hg
        clear hg
        go_wp2_with fail
        go_round
        case rel => exact ⟨k + 1, by omega, by go_num, by rw [HS.out]; unfold ofStep; rw [if_pos HG.out]⟩
        case measure => simp [intOf]; omega
      · have q1 : (g == s) = false := by simpa using hg
        have HG := Lib.hid hg
        clear hg
        go_wp2_with fail
        go_round
        case rel => exact ⟨k + 1, by omega, by go_num, by rw [HS.out]; unfold ofStep; rw [if_neg HG.out]⟩
        case measure => simp [intOf]; omega
    · obtain rfl : k = N := by omega
      have HE : Hid (ofF (L.take k) s = ofF L s) := Lib.hid (by rw [List.take_of_length_le (by rw [HN.out]; exact Nat.le_refl _)])
      go_wp2_with fail
      go_ret
      exact ⟨by rw [HE.out]; rfl, rfl⟩
theorem left_step (r : Int) (L : Its) {k : Nat} {p : Str × Int} (h : L[k]? = some p) : wrap64 (wrap64 (r - totF (L.take k)) - p.2) = wrap64 (r - totF (L.take (k + 1))) := by
  have e : totF (L.take (k + 1)) = wrap64 (totF (L.take k) + p.2) := by
    unfold totF
    rw [List.take_add_one, h, List.foldl_append]
    rfl
  rw [e]
  generalize totF (L.take k) = T
  unfold wrap64
  omega
set_option maxRecDepth 100000 in
set_option maxHeartbeats 4000000 in
theorem rLeft1 (w : World) (b : BV) (hk : BOk w b) : Calls Tryz.prog 27 #[.agg b.cs] w fun e w' => e = .returned (.int .i64 (leftE b.e)) ∧ Fr (fun _ => False) w w' := by
  have hr : leftE b.e = wrap64 (b.ro - totF b.its) := rfl
  have h0 : wrap64 (b.ro - totF (b.its.take 0)) = b.ro := by
    have h1 : totF (b.its.take 0) = 0 := rfl
    have := hk.ro
    unfold okI at this
    rw [h1, Int.sub_zero]
    exact wrap64_in this
  rw [hr]
  obtain ⟨nu, zo, ro, l, its⟩ := b
  have hl := hk.l
  obtain ⟨la, lc, hle⟩ := hl.sl
  dsimp only at hle
  subst hle
  unfold BV.cs
  dsimp only at h0 hl ⊢
  obtain ⟨N, hN⟩ : ∃ N, its.length = N := ⟨_, rfl⟩
  have HN := Lib.hid hN
  have hlen : (N : Int) ≤ 9223372036854775807 := by have := hl.1; omega
  rw [hN] at hl ⊢
  obtain ⟨n0, hn0⟩ : ∃ n0, w.heap.size = n0 := ⟨_, rfl⟩
  obtain ⟨W0, hW0⟩ : ∃ W0, w.alloc (.cells #[.int .i64 nu, .int .i64 zo, .int .i64 ro, .slice la N lc] 75) = W0 := ⟨_, rfl⟩
  have hf0 : Fr (fun _ => False) w W0 := by rw [← hW0]; exact (Fr.refl _ w).alloc _
  have hx0 : W0.heap[n0]? = some (.cells #[.int .i64 nu, .int .i64 zo, .int .i64 ro, .slice la N lc] 75) := by rw [← hW0]; exact heap_at hn0.symm _
  have HF0 := Lib.hid hf0; have HL := Lib.hid (hl.keep hf0 (fun _ _ _ e => e)); have HZ := Lib.hid h0
  have c2 := cell_obj hx0 2 (.int .i64 ro) rfl
  have c3 := cell_obj hx0 3 (.slice la N lc) rfl
  clear hk hr hl hf0 hx0 hN h0
  go_enter Tryz.func27, Tryz.ntmps27
  go_wp2_with fail
  go_loopw [3, 4] (fun vn vi wr => ∃ k : Nat, k ≤ N ∧ vn = .int .i64 (wrap64 (ro - totF (its.take k))) ∧ vi = .int .i64 k ∧ Fr (fun _ => False) W0 wr) (fun _ vi _ => N - (intOf vi).toNat)
  case atStart => exact ⟨0, Nat.zero_le _, by rw [HZ.out], rfl, Fr.refl _ _⟩
  case round =>
    obtain ⟨k, hk, rfl, rfl, hfr⟩ := hrel
    have HFR := Lib.hid hfr
    have c3 := hfr.cell c3 (fun e => e)
    by_cases hlt : k < N
    · obtain ⟨p, hp⟩ : ∃ p, its[k]? = some p := ⟨its[k]'(by rw [HN.out]; exact hlt), List.getElem?_eq_getElem _⟩
      obtain ⟨ad, rfl, -, -, x0, x1⟩ := (HL.out.keep hfr (fun _ _ _ e => e)).at_ hp
      have hlI : (k : Int) < N := by omega
      have HS := Lib.hid (left_step ro its hp)
      obtain ⟨A, hA⟩ : ∃ A, wrap64 (ro - totF (its.take k)) = A := ⟨_, rfl⟩
      rw [hA] at HS ⊢
      obtain ⟨g, n⟩ := p
      dsimp only at x0 x1 HS
      clear hp hA hfr c2
      go_wp2_with fail
      go_roundw
      case rel => exact ⟨k + 1, by omega, by rw [← HS.out]; first | done | rfl, by go_num, HFR.out⟩
      case measure => simp [intOf]; omega
    · obtain rfl : k = N := by omega
      have hlI : ¬ (k : Int) < k := by omega
      have HE : Hid (totF (its.take k) = totF its) := Lib.hid (by rw [List.take_of_length_le (by rw [HN.out]; exact Nat.le_refl _)])
      clear hfr c2
      go_wp2_with fail
      go_ret
      exact ⟨by rw [HE.out]; rfl, HF0.out.trans HFR.out⟩
set_option maxRecDepth 100000 in
set_option maxHeartbeats 4000000 in
theorem rKind (w : World) (b : BV) (s : Str) (hk : BOk w b) : Calls Tryz.prog 87 #[.agg b.cs, vS s] w fun e w' => e = .returned (.int .i64 (kindE b.e s + 1)) ∧ Fr (fun _ => False) w w' := by
  have hr : kindE b.e s = if 0 < ofF b.its s then 0 else if b.its.length = 0 then 1 else if b.its.length < 16 then 2 else 3 := rfl
  rw [hr]
  clear hr
  obtain ⟨nu, zo, ro, l, its⟩ := b
  have hl := hk.l
  obtain ⟨la, lc, hle⟩ := hl.sl
  dsimp only at hle
  subst hle
  unfold BV.cs
  dsimp only at hl ⊢
  have hof := Lib.hid (fun W hf => r6OfB W _ its s (hl.keep (w' := W) (S := fun _ => False) hf (fun _ _ _ e => e)))
  obtain ⟨N, hN⟩ : ∃ N, its.length = N := ⟨_, rfl⟩
  obtain ⟨O, hO⟩ : ∃ O, ofF its s = O := ⟨_, rfl⟩
  rw [hN, hO] at hof ⊢
  clear hk hl hN hO
  have HFA := Lib.hid ((Fr.refl (fun _ => False) w).alloc (.cells #[.int .i64 nu, .int .i64 zo, .int .i64 ro, .slice la N lc] 75))
  by_cases h1 : 0 < O
  · rw [if_pos h1]
    go_enter Tryz.func87, Tryz.ntmps87
    go_wp2_with (go_at_call 62; refine (hof.out _ HFA.out).mono ?_; rintro e w2 ⟨rfl, rfl⟩)
    go_ret
    exact ⟨rfl, HFA.out⟩
  · rw [if_neg h1]
    by_cases h2 : N = 0
    · have h2I : ((N : Int) == 0) = true := by simp; omega
      rw [if_pos h2]
      clear h2
      go_enter Tryz.func87, Tryz.ntmps87
      go_wp2_with (go_at_call 62; refine (hof.out _ HFA.out).mono ?_; rintro e w2 ⟨rfl, rfl⟩)
      go_ret
      exact ⟨rfl, HFA.out⟩
    · have h2I : ((N : Int) == 0) = false := by simp; omega
      rw [if_neg h2]
      by_cases h3 : N < 16
      · have h3I : (N : Int) < 16 := by omega
        rw [if_pos h3]
        clear h2 h3
        go_enter Tryz.func87, Tryz.ntmps87
        go_wp2_with (go_at_call 62; refine (hof.out _ HFA.out).mono ?_; rintro e w2 ⟨rfl, rfl⟩)
        go_ret
        exact ⟨rfl, HFA.out⟩
      · have h3I : ¬ (N : Int) < 16 := by omega
        rw [if_neg h3]
        clear h2 h3
        go_enter Tryz.func87, Tryz.ntmps87
        go_wp2_with (go_at_call 62; refine (hof.out _ HFA.out).mono ?_; rintro e w2 ⟨rfl, rfl⟩)
        go_ret
        exact ⟨rfl, HFA.out⟩
set_option maxRecDepth 100000 in
set_option maxHeartbeats 4000000 in
theorem rTakes (w : World) (b : BV) (s : Str) (hk : BOk w b) : Calls Tryz.prog 89 #[.agg b.cs, vS s] w fun e w' => e = .returned (.bool (kindE b.e s != 3)) ∧ Fr (fun _ => False) w w' := by
  have hr : kindE b.e s = if 0 < ofF b.its s then 0 else if b.its.length = 0 then 1 else if b.its.length < 16 then 2 else 3 := rfl
  have hr2 : (kindE b.e s != 3) = (decide (0 < ofF b.its s) || decide (b.its.length < 16)) := by
    rw [hr]
    by_cases h1 : 0 < ofF b.its s
    · rw [if_pos h1]; simp [h1]
    · rw [if_neg h1]
      by_cases h2 : b.its.length = 0
      · rw [if_pos h2]; simp [h2]
      · rw [if_neg h2]
        by_cases h3 : b.its.length < 16
        · rw [if_pos h3]; simp [h3]
        · rw [if_neg h3]; simp [h1, h3]
  rw [hr2]
  clear hr hr2
  obtain ⟨nu, zo, ro, l, its⟩ := b
  have hl := hk.l
  obtain ⟨la, lc, hle⟩ := hl.sl
  dsimp only at hle
  subst hle
  unfold BV.cs
  dsimp only at hl ⊢
  have hof := Lib.hid (fun W hf => r6OfB W _ its s (hl.keep (w' := W) (S := fun _ => False) hf (fun _ _ _ e => e)))
  obtain ⟨N, hN⟩ : ∃ N, its.length = N := ⟨_, rfl⟩
  obtain ⟨O, hO⟩ : ∃ O, ofF its s = O := ⟨_, rfl⟩
  rw [hN, hO] at hof ⊢
  clear hk hl hN hO
  have HFA := Lib.hid ((Fr.refl (fun _ => False) w).alloc (.cells #[.int .i64 nu, .int .i64 zo, .int .i64 ro, .slice la N lc] 75))
  by_cases h1 : 0 < O
  · have hr : Hid ((decide (0 < O) || decide (N < 16)) = true) := Lib.hid (by simp [h1])
    obtain ⟨R, hR⟩ : ∃ R, (decide (0 < O) || decide (N < 16)) = R := ⟨_, rfl⟩
    rw [hR] at hr ⊢
    clear hR
    go_enter Tryz.func89, Tryz.ntmps89
    go_wp2_with (go_at_call 62; refine (hof.out _ HFA.out).mono ?_; rintro e w2 ⟨rfl, rfl⟩)
    go_ret
    exact ⟨by rw [hr.out]; first | rfl | simp [h1], HFA.out⟩
  · by_cases h3 : N < 16
    · have h3I : (N : Int) < 16 := by omega
      have hr : Hid ((decide (0 < O) || decide (N < 16)) = true) := Lib.hid (by simp [h3])
      obtain ⟨R, hR⟩ : ∃ R, (decide (0 < O) || decide (N < 16)) = R := ⟨_, rfl⟩
      rw [hR] at hr ⊢
      clear hR h3
      go_enter Tryz.func89, Tryz.ntmps89
      go_wp2_with (go_at_call 62; refine (hof.out _ HFA.out).mono ?_; rintro e w2 ⟨rfl, rfl⟩)
      go_ret
      exact ⟨by rw [hr.out]; first | rfl | simp [h1, h3I], HFA.out⟩
    · have h3I : ¬ (N : Int) < 16 := by omega
      have hr : Hid ((decide (0 < O) || decide (N < 16)) = false) := Lib.hid (by simp [h1, h3])
      obtain ⟨R, hR⟩ : ∃ R, (decide (0 < O) || decide (N < 16)) = R := ⟨_, rfl⟩
      rw [hR] at hr ⊢
      clear hR h3
      go_enter Tryz.func89, Tryz.ntmps89
      go_wp2_with (go_at_call 62; refine (hof.out _ HFA.out).mono ?_; rintro e w2 ⟨rfl, rfl⟩)
      go_ret
      exact ⟨by rw [hr.out]; first | rfl | simp [h1, h3I], HFA.out⟩
set_option maxRecDepth 100000 in
set_option maxHeartbeats 4000000 in
theorem rMayN (w : World) (s : Str) (n : Int) (hs : okS s) : Calls Tryz.prog 86 #[vS s, .int .i64 n] w fun e w' => e = .returned (.bool (decide (mayF s n = 0))) ∧ w = w' := by
  have hg := fun W => r6Good W s hs
  have hr : decide (mayF s n = 0) = (goodB s && (decide (1 ≤ n) && decide (n ≤ 1099511627776))) := by
    rw [Bool.eq_iff_iff]
    unfold mayF mayI
    simp only [decide_eq_true_eq, Bool.and_eq_true]
    constructor
    · intro h
      by_cases e : goodB s = true ∧ 1 ≤ n ∧ 0 ≤ n ∧ n ≤ 1099511627776
      · exact ⟨e.1, e.2.1, e.2.2.2⟩
      · rw [if_neg e] at h; omega
    · rintro ⟨h1, h2, h3⟩
      rw [if_pos ⟨h1, h2, by omega, h3⟩]
  rw [hr]
  obtain ⟨G, hG⟩ : ∃ G, goodB s = G := ⟨_, rfl⟩
  simp only [hG] at hg ⊢
  have HG := Lib.hid hg
  clear hr hG hg hs
  cases G with
  | false =>
    rw [Bool.false_and]
    go_enter Tryz.func86, Tryz.ntmps86
    go_wp2_with (go_at_call 92; refine (HG.out _).mono ?_; rintro e w2 ⟨rfl, rfl⟩)
    go_ret
    exact ⟨rfl, rfl⟩
  | true =>
    rw [Bool.true_and]
    by_cases h1 : 1 ≤ n
    · by_cases h2 : n ≤ 1099511627776
      · have e : (decide (1 ≤ n) && decide (n ≤ 1099511627776)) = true := by simp [h1, h2]
        rw [e]
        clear e
        go_enter Tryz.func86, Tryz.ntmps86
        go_wp2_with (go_at_call 92; refine (HG.out _).mono ?_; rintro e w2 ⟨rfl, rfl⟩)
        go_ret
        exact ⟨by first | rfl | simp [h1, h2], rfl⟩
      · have e : (decide (1 ≤ n) && decide (n ≤ 1099511627776)) = false := by simp [h2]
        rw [e]
        clear e
        go_enter Tryz.func86, Tryz.ntmps86
        go_wp2_with (go_at_call 92; refine (HG.out _).mono ?_; rintro e w2 ⟨rfl, rfl⟩)
        go_ret
        exact ⟨by first | rfl | simp [h1, h2], rfl⟩
    · have e : (decide (1 ≤ n) && decide (n ≤ 1099511627776)) = false := by simp [h1]
      rw [e]
      clear e
      go_enter Tryz.func86, Tryz.ntmps86
      go_wp2_with (go_at_call 92; refine (HG.out _).mono ?_; rintro e w2 ⟨rfl, rfl⟩)
      go_ret
      exact ⟨by first | rfl | simp [h1], rfl⟩
set_option maxRecDepth 100000 in
set_option maxHeartbeats 4000000 in
theorem rOf (w : World) (g : Nat) (L : List BV) (s : Str) (h : Rl w g L) : Calls Tryz.prog 18 #[.pointer (some ⟨g, 0, none⟩), vS s] w fun e w' => e = .returned (.int .i64 (sumE (L.map BV.e) s)) ∧ Fr (fun _ => False) w w' := by
  rw [← sumE_e]
  obtain ⟨a, c, q1, q2⟩ := h
  have hNI := q2.len
  obtain ⟨N, hN⟩ : ∃ N, L.length = N := ⟨_, rfl⟩
  have HN := Lib.hid hN
  rw [hN] at q1 q2 hNI
  have c0 := cell_obj q1 0 (.slice a N c) rfl
  have HQ2 := Lib.hid q2
  clear q1 q2 hN
  go_enter Tryz.func18, Tryz.ntmps18
  go_wp2_with fail
  go_loopw [5, 6] (fun va vi wr => ∃ k : Nat, k ≤ N ∧ va = .int .i64 (sumF (L.take k) s) ∧ vi = .int .i64 k ∧ Fr (fun _ => False) w wr) (fun _ vi _ => N - (intOf vi).toNat)
  case atStart => exact ⟨0, Nat.zero_le _, rfl, rfl, Fr.refl _ _⟩
  case round =>
    obtain ⟨k, hk, rfl, rfl, hfr⟩ := hrel
    have HFR := Lib.hid hfr
    have d0 := hfr.cell c0 (fun e => e)
    by_cases hlt : k < N
    · obtain ⟨x, hx⟩ : ∃ x, L[k]? = some x := ⟨L[k]'(by rw [HN.out]; exact hlt), List.getElem?_eq_getElem _⟩
      have HT := Lib.hid (sumF_take s hx)
      obtain ⟨ad, rfl, hok, z0, zs⟩ := (HQ2.out.fr0 bokKeeps hfr).at_ hx
      have hkI : (k : Int) < N := by omega
      obtain ⟨la, lc, hl⟩ := hok.l.sl
      have x3 := zs 2 x.l rfl
      dsimp only [Nat.zero_add, Nat.reduceAdd] at x3
      rw [hl] at x3
      obtain ⟨T, hT⟩ : ∃ T, sumF (L.take k) s = T := ⟨_, rfl⟩
      obtain ⟨O, hO⟩ : ∃ O, ofF x.its s = O := ⟨_, rfl⟩
      rw [hT, hO] at HT
      rw [hT]
      have hOf : Hid (Calls Tryz.prog 62 #[.slice la x.its.length lc, vS s] wr fun e w' => e = .returned (.int .i64 O) ∧ wr = w') := Lib.hid (by
        have := r6OfB wr x.l x.its s hok.l
        rw [hl, hO] at this; exact this)
      clear hx hok z0 zs hl hT hO hfr c0
      go_wp2_with (go_at_call 62; refine hOf.out.mono ?_; rintro e w2 ⟨rfl, rfl⟩)
      go_roundw
      case rel => exact ⟨k + 1, by omega, by first | (rw [HT.out]; done) | (rw [HT.out]; rfl), by go_num, HFR.out⟩
      case measure => simp [intOf]; omega
    · obtain rfl : k = N := by omega
      have hkI : ¬ (k : Int) < k := by omega
      have hres : Hid (sumF (L.take k) s = sumF L s) := Lib.hid (by rw [List.take_of_length_le (by rw [HN.out]; exact Nat.le_refl _)])
      clear hfr c0
      go_wp2_with fail
      go_ret
      exact ⟨by rw [hres.out]; rfl, HFR.out⟩
end Go.Proofs.YtefjdcghdcbojaaGreat

namespace Go.Proofs.YtefjdcghdcbojaaGreat
open Go.RowKit Go.Maps
theorem infoRowS : (Tryz.prog.info? 75).map (fun i => (i.zero, i.size, i.bytes)) = some (some (.agg #[.int .i64 0, .int .i64 0, .int .i64 0, .slice none 0 0]), 4, 48) := by kernel_rfl
/-- On the way of set: the row as it was, the answer's box, the row that is made. -/
structure RsI (w W : World) (n0 : Nat) (nu zo ro : Int) (lb lv : Value) (o : Its) : Prop where
  bx : W.heap[n0]? = some (.cells #[.int .i64 nu, .int .i64 zo, .int .i64 ro, lb] 75)
  res : W.heap[n0 + 1]? = some (.cells #[.int .i64 0, .int .i64 0, .int .i64 0, .slice none 0 0] 75)
  ob : W.heap[n0 + 2]? = some (.cells #[.int .i64 nu, .int .i64 zo, .int .i64 ro, lv] 75)
  row : W.ownsRow (n0 + 3) 118 2 lv o.length (itCs o)
  fr : Fr (fun _ => False) w W
theorem RsI.keep {w W W' : World} {n0 : Nat} {nu zo ro : Int} {lb lv : Value} {o : Its} (h : RsI w W n0 nu zo ro lb lv o) (hf : Fr (fun _ => False) W W') : RsI w W' n0 nu zo ro lb lv o :=
  ⟨hf.at_ h.bx (fun e => e), hf.at_ h.res (fun e => e), hf.at_ h.ob (fun e => e), hf.row h.row (fun _ _ e => e), h.fr.trans hf⟩
theorem RsI.push {w W W2 : World} {n0 : Nat} {nu zo ro : Int} {lb lv lv' : Value} {o : Its} {p : Str × Int} (h : RsI w W n0 nu zo ro lb lv o) (hn : w.heap.size = n0) (hf : Fr (fun c => lv.ownBlock = some c) W W2) (ho : W2.ownsRow (n0 + 3) 118 2 lv' (o.length + 1) (itCs o ++ [vS p.1, .int .i64 p.2])) : RsI w (W2.setCell ⟨n0 + 2, 3, none⟩ lv') n0 nu zo ro lb lv' (o ++ [p]) := by
  have hfs : Fr (fun c => c = n0 + 2) W2 (W2.setCell ⟨n0 + 2, 3, none⟩ lv') := (Fr.refl (fun c => c = n0 + 2) W2).setCell (p := ⟨n0 + 2, 3, none⟩) (fun _ => rfl) _
  have hlt : ∀ c, lv.ownBlock = some c → n0 + 3 ≤ c := fun c hc => (h.row.lt c hc).1
  have hob := hf.at_ h.ob (fun e => by have := hlt _ e; omega)
  refine ⟨hfs.at_ (hf.at_ h.bx (fun e => by have := hlt _ e; omega)) (by omega), hfs.at_ (hf.at_ h.res (fun e => by have := hlt _ e; omega)) (by omega), ?_, ?_, (h.fr.trans' hf (fun c hc e => by have := hlt c e; omega)).trans' hfs (fun c hc e => by have e : c = n0 + 2 := e; omega)⟩
  · rw [obj_set hob 3 lv']; rfl
  · rw [List.length_append, itCs_app]
    exact hfs.row ho (fun c hc e => by have := (ho.lt c hc).1; have e : c = n0 + 2 := e; omega)
set_option maxRecDepth 100000 in
set_option maxHeartbeats 16000000 in
theorem rSet (w : World) (b : BV) (s : Str) (n : Int) (hk : BOk w b) (hs : okS s) (hn : okI n) (hn0 : 0 ≤ n) (hri : RiseI b.its) (hlen : b.its.length ≤ 1000) : Calls Tryz.prog 88 #[.agg b.cs, vS s, .int .i64 n] w fun e w' => ∃ v, e = .returned (.agg (BV.cs (b.put v s n))) ∧ BOk w' (b.put v s n) ∧ (∀ c, v.ownBlock = some c → w.heap.size ≤ c ∧ ∃ cur, w'.heap[c]? = some (.cells cur 118)) ∧ Fr (fun _ => False) w w' := by
  obtain ⟨i0, hi', hz0, hz1, hz2⟩ := info_parts infoItem
  obtain ⟨j0, hj', hy0, hy1, hy2⟩ := info_parts infoRowS
  have hset := setR_eq hri hn0 (s := s)
  obtain ⟨nu, zo, ro, l, its⟩ := b
  have hokc : okI nu ∧ okI zo ∧ okI ro := ⟨hk.nu, hk.zo, hk.ro⟩
  have hl := hk.l
  obtain ⟨la, lc, hle⟩ := hl.sl
  dsimp only at hle hset hlen
  subst hle
  unfold BV.cs BV.put
  dsimp only at hl ⊢
  rw [← hset]
  have hitok : ∀ p ∈ its, okS p.1 ∧ okI p.2 := fun p hp => by
    obtain ⟨_, _, _, _, hq⟩ := hl
    obtain ⟨i, hi⟩ := List.getElem?_of_mem hp
    exact ⟨(hq i p hi).1, (hq i p hi).2.1⟩
  obtain ⟨N, hN⟩ : ∃ N, its.length = N := ⟨_, rfl⟩
  have HN := Lib.hid hN
  rw [hN] at hl hlen ⊢
  have HIT := Lib.hid hitok; have HS1 := Lib.hid hs; have HN1 := Lib.hid hn; have HOC := Lib.hid hokc
  obtain ⟨D0, hD0⟩ : ∃ D0, decide (n = 0) = D0 := ⟨_, rfl⟩
  obtain ⟨FD, hFD⟩ : ∃ F : Nat → Bool × Its, (fun k => (its.take k).foldl (setSt s n) (D0, [])) = F := ⟨_, rfl⟩
  have hF0 : FD 0 = (D0, []) := by rw [← hFD]; rfl
  have hFs : ∀ {k : Nat} {p : Str × Int}, its[k]? = some p → FD (k + 1) = setSt s n (FD k) p := fun {k p} h => by
    rw [← hFD]; dsimp only; rw [List.take_add_one, h, List.foldl_append]; rfl
  have hFl : ∀ k, (FD k).2.length ≤ 2 * k := fun k => by
    rw [← hFD]
    have h1 := setSt_len s n (its.take k) (D0, [])
    have h2 : (its.take k).length ≤ k := by rw [List.length_take]; omega
    dsimp only
    simp only [List.length_nil] at h1
    omega
  have hFo : ∀ k, ∀ p ∈ (FD k).2, okS p.1 ∧ okI p.2 := fun k => by
    rw [← hFD]
    exact setSt_ok (P := fun p => okS p.1 ∧ okI p.2) ⟨hs, hn⟩ (its.take k) (D0, []) (fun p hp => hitok p (List.mem_of_mem_take hp)) (fun p hp => by cases hp)
  have hres : setR its s n = if (FD N).1 = true then (FD N).2 else (FD N).2 ++ [(s, n)] := by
    have hFN : FD N = its.foldl (setSt s n) (D0, []) := by rw [← hFD]; dsimp only; rw [List.take_of_length_le (by rw [hN]; exact Nat.le_refl _)]
    rw [hFN]
    unfold setR
    dsimp only
    rw [hD0]
  obtain ⟨RS, hRS⟩ : ∃ RS, setR its s n = RS := ⟨_, rfl⟩
  rw [hRS] at hres ⊢
  have HF0 := Lib.hid hF0; have HFS := Lib.hid (fun (k : Nat) (p : Str × Int) (h : its[k]? = some p) => hFs h); have HFL := Lib.hid hFl; have HFO := Lib.hid hFo; have HRES := Lib.hid hres
  obtain ⟨n0, hn0'⟩ : ∃ n0, w.heap.size = n0 := ⟨_, rfl⟩
  have HS := Lib.hid hn0'
  obtain ⟨W0, hW0⟩ : ∃ W0, ((w.alloc (.cells #[.int .i64 nu, .int .i64 zo, .int .i64 ro, .slice la N lc] 75)).alloc (.cells #[.int .i64 0, .int .i64 0, .int .i64 0, .slice none 0 0] 75)).alloc (.cells #[.int .i64 0, .int .i64 0, .int .i64 0, .slice none 0 0] 75) = W0 := ⟨_, rfl⟩
  have hb0 : W0.heap[n0]? = some (.cells #[.int .i64 nu, .int .i64 zo, .int .i64 ro, .slice la N lc] 75) := by rw [← hW0]; exact heap_keep (heap_keep (heap_at hn0'.symm _) _) _
  have hr0 : W0.heap[n0 + 1]? = some (.cells #[.int .i64 0, .int .i64 0, .int .i64 0, .slice none 0 0] 75) := by rw [← hW0]; exact heap_keep (heap_at (by simp; omega) _) _
  have ho0 : W0.heap[n0 + 2]? = some (.cells #[.int .i64 0, .int .i64 0, .int .i64 0, .slice none 0 0] 75) := by rw [← hW0]; exact heap_at (by simp; omega) _
  have hf0 : Fr (fun _ => False) w W0 := by rw [← hW0]; exact (((Fr.refl _ w).alloc _).alloc _).alloc _
  obtain ⟨W1, hW1⟩ : ∃ W1, (((W0.setCell ⟨n0 + 2, 0, none⟩ (.int .i64 nu)).setCell ⟨n0 + 2, 1, none⟩ (.int .i64 zo)).setCell ⟨n0 + 2, 2, none⟩ (.int .i64 ro)).setCell ⟨n0 + 2, 3, none⟩ (.slice none 0 0) = W1 := ⟨_, rfl⟩
  have hf1 : Fr (fun c => c = n0 + 2) W0 W1 := by
    rw [← hW1]
    exact Fr.setCell (S := fun c => c = n0 + 2) (Fr.setCell (S := fun c => c = n0 + 2) (Fr.setCell (S := fun c => c = n0 + 2) (Fr.setCell (S := fun c => c = n0 + 2) (Fr.refl _ _) (p := ⟨n0 + 2, 0, none⟩) (fun _ => rfl) _) (p := ⟨n0 + 2, 1, none⟩) (fun _ => rfl) _) (p := ⟨n0 + 2, 2, none⟩) (fun _ => rfl) _) (p := ⟨n0 + 2, 3, none⟩) (fun _ => rfl) _
  have hI1 : RsI w W1 n0 nu zo ro (.slice la N lc) (.slice none 0 0) [] :=
    ⟨hf1.at_ hb0 (by omega), hf1.at_ hr0 (by omega), by rw [← hW1, obj_set (obj_set (obj_set (obj_set ho0 0 _) 1 _) 2 _) 3 _]; rfl, World.ownsRow_nil _ _ _ _, hf0.trans' hf1 (fun c hc e => by have e : c = n0 + 2 := e; omega)⟩
  have HI1 := Lib.hid hI1
  have hitems : Hid (∀ W, Fr (fun _ => False) w W → ∀ (k : Nat) (p : Str × Int), its[k]? = some p → ∃ ad, la = some ad ∧ W.cell? (ad.add (k * 2)) = some (vS p.1) ∧ W.cell? ⟨(ad.add (k * 2)).block, (ad.add (k * 2)).off + 1, none⟩ = some (.int .i64 p.2)) := Lib.hid (fun W hf k p hp => by
    obtain ⟨ad, e, -, -, x0, x1⟩ := hl.at_ hp
    exact ⟨ad, e, hf.cell x0 (fun e => e), hf.cell x1 (fun e => e)⟩)
  have a0 := cell_obj hb0 0 (.int .i64 nu) rfl; have a1 := cell_obj hb0 1 (.int .i64 zo) rfl; have a2 := cell_obj hb0 2 (.int .i64 ro) rfl; have a3 := cell_obj hb0 3 (.slice la N lc) rfl
  have c0 := cell_obj ho0 0 (.int .i64 0) rfl; have c1 := cell_obj ho0 1 (.int .i64 0) rfl; have c2 := cell_obj ho0 2 (.int .i64 0) rfl; have c3 := cell_obj ho0 3 (.slice none 0 0) rfl
  have f0 := obj_frozen ho0 0; have f1 := obj_frozen ho0 1; have f2 := obj_frozen ho0 2; have f3 := obj_frozen ho0 3
  have hNI : (N : Int) ≤ 1000 := by omega
  have HD0 := Lib.hid hD0
  have hDz : (n == 0) = D0 := by rw [← hD0]; rfl
  clear hk hl hset hri hN hs hn hokc hitok hF0 hFs hFl hFo hres hRS hFD hb0 hr0 ho0 hf0 hf1 hI1 hD0
  go_enter Tryz.func88, Tryz.ntmps88
  go_wp2_with fail
  (try rw [hW1])
  clear a0 a1 a2 a3 c0 c1 c2 c3 f0 f1 f2 f3 hW1 hW0 hDz
  go_loopw [8, 9] (fun vd vi wr => ∃ (k : Nat) (lv : Value), k ≤ N ∧ vd = .bool (FD k).1 ∧ vi = .int .i64 k ∧ RsI w wr n0 nu zo ro (.slice la N lc) lv (FD k).2) (fun _ vi _ => N - (intOf vi).toNat)
  case atStart => exact ⟨0, .slice none 0 0, Nat.zero_le _, by rw [HF0.out], rfl, by rw [HF0.out]; exact HI1.out⟩
  case round =>
    obtain ⟨k, lv, hk, rfl, rfl, hI⟩ := hrel
    have HI := Lib.hid hI
    obtain ⟨oa, oc, rfl⟩ := row_sl hI.row
    have b3 := cell_obj hI.bx 3 (.slice la N lc) rfl
    have o3 := cell_obj hI.ob 3 (.slice oa (FD k).2.length oc) rfl
    have of3 := obj_frozen hI.ob 3
    have hfl := HFL.out k
    by_cases hlt : k < N
    · obtain ⟨p, hp⟩ : ∃ p, its[k]? = some p := ⟨its[k]'(by rw [HN.out]; exact hlt), List.getElem?_eq_getElem _⟩
      have hkI : (k : Int) < N := by omega
      have hnext := Lib.hid (HFS.out k p hp)
      obtain ⟨ad, rfl, x0, x1⟩ := hitems.out wr hI.fr k p hp
      have HPK := Lib.hid hp
      obtain ⟨dk, o, hfd⟩ : ∃ dk o, FD k = (dk, o) := ⟨_, _, rfl⟩
      rw [hfd] at HI o3 hfl hnext ⊢
      dsimp only at HI o3 hfl hnext ⊢
      obtain ⟨lo, hlo⟩ : ∃ lo, o.length = lo := ⟨_, rfl⟩
      rw [hlo] at HI o3 hfl
      have HLO := Lib.hid hlo
      have HFLO := Lib.hid hfl
      obtain ⟨gd, m⟩ := p
      dsimp only at x0 x1 hnext
      unfold setSt at hnext
      dsimp only at hnext
      clear hI hp hfd hlo
      by_cases hnow : dk = false ∧ ¬ gd < s
      · obtain ⟨hdk, hlts⟩ := hnow
        subst hdk
        rw [if_pos ⟨rfl, hlts⟩] at hnext
        have q1 : Op.bytesLess gd s = false := by rw [bytesLess_eq]; exact decide_eq_false hlts
        by_cases heq : gd = s
        · have q2 : (gd == s) = true := by simpa using heq
          rw [if_pos heq] at hnext
          have hfin := hnext
          clear heq hlts
          go_wp2_with (at_builtin; refine wpList_append_src rfl _ _ 57 rfl (n0 + 3) 118 i0 (.agg #[.string ⟨#[]⟩, .int .i64 0]) 24 Tryz.underlying57 hi' hz0 hz1 hz2 rfl (by decide) (.slice oa lo oc) lo (itCs o) rfl (((Fr.refl (fun _ => False) wr).alloc _).row (by have := HI.out.row; rw [HLO.out] at this; exact this) (fun _ _ e => e)) 1 rfl (rd_obj (cs := [vS s, .int .i64 n]) (heap_new _ _) rfl) (by intro u hu; simp only [List.mem_cons, List.not_mem_nil, or_false] at hu; rcases hu with rfl | rfl <;> rfl) (by unfold maxLen; omega) (by omega) (by have := (Array.getElem?_eq_some_iff.1 HI.out.ob).1; simp; omega) ?_; intro v5 w5 hown5 hgrow5 hloc5; have hg5 : Fr (fun c => (Value.slice oa lo oc).ownBlock = some c) wr w5 := ((Fr.refl (fun c => (Value.slice oa lo oc).ownBlock = some c) wr).alloc _).trans (Fr.grown hgrow5 (fun r hr _ => hr)); have hob5 := hg5.at_ HI.out.ob (fun e => by have h1 := HI.out.row; rw [HLO.out] at h1; have := (h1.lt _ e).1; omega); have c5 := cell_obj hob5 3 (.slice oa lo oc) rfl; have f5 := obj_frozen hob5 3; have hpu := HI.out.push (p := (s, n)) HS.out hg5 (by rw [HLO.out]; exact hown5); obtain ⟨a5, c5', hv5⟩ := row_sl hown5; subst hv5; obtain ⟨W6, hW6⟩ : ∃ W, w5.setCell ⟨n0 + 2, 3, none⟩ (.slice a5 (lo + 1) c5') = W := ⟨_, rfl⟩; rw [hW6] at hpu; have HI6 := Lib.hid hpu; have b3 := cell_obj hpu.bx 3 (.slice (some ad) N lc) rfl; have o3 := cell_obj hpu.ob 3 (.slice a5 (lo + 1) c5') rfl; obtain ⟨ad', e', x0, x1⟩ := hitems.out W6 hpu.fr k (gd, m) HPK.out; cases e'; dsimp only at x0 x1; clear hown5 hgrow5 hloc5 hg5 hob5 hpu)
          go_roundw
          case rel => exact ⟨k + 1, _, by omega, by rw [hfin.out], by go_num, by rw [hfin.out]; exact HI6.out⟩
          case measure => simp [intOf]; omega
        · have q2 : (gd == s) = false := by simpa using heq
          rw [if_neg heq] at hnext
          have hfin := hnext
          clear heq hlts
          go_wp2_with (at_builtin; refine wpList_append_src rfl _ _ 57 rfl (n0 + 3) 118 i0 (.agg #[.string ⟨#[]⟩, .int .i64 0]) 24 Tryz.underlying57 hi' hz0 hz1 hz2 rfl (by decide) (.slice oa lo oc) lo (itCs o) rfl (((Fr.refl (fun _ => False) wr).alloc _).row (by have := HI.out.row; rw [HLO.out] at this; exact this) (fun _ _ e => e)) 1 rfl (rd_obj (cs := [vS s, .int .i64 n]) (heap_new _ _) rfl) (by intro u hu; simp only [List.mem_cons, List.not_mem_nil, or_false] at hu; rcases hu with rfl | rfl <;> rfl) (by unfold maxLen; omega) (by omega) (by have := (Array.getElem?_eq_some_iff.1 HI.out.ob).1; simp; omega) ?_; intro v5 w5 hown5 hgrow5 hloc5; have hg5 : Fr (fun c => (Value.slice oa lo oc).ownBlock = some c) wr w5 := ((Fr.refl (fun c => (Value.slice oa lo oc).ownBlock = some c) wr).alloc _).trans (Fr.grown hgrow5 (fun r hr _ => hr)); have hob5 := hg5.at_ HI.out.ob (fun e => by have h1 := HI.out.row; rw [HLO.out] at h1; have := (h1.lt _ e).1; omega); have c5 := cell_obj hob5 3 (.slice oa lo oc) rfl; have f5 := obj_frozen hob5 3; have hpu := HI.out.push (p := (s, n)) HS.out hg5 (by rw [HLO.out]; exact hown5); obtain ⟨a5, c5', hv5⟩ := row_sl hown5; subst hv5; obtain ⟨W6, hW6⟩ : ∃ W, w5.setCell ⟨n0 + 2, 3, none⟩ (.slice a5 (lo + 1) c5') = W := ⟨_, rfl⟩; rw [hW6] at hpu; have HI6 := Lib.hid hpu; have b3 := cell_obj hpu.bx 3 (.slice (some ad) N lc) rfl; have o3 := cell_obj hpu.ob 3 (.slice a5 (lo + 1) c5') rfl; obtain ⟨ad', e', x0, x1⟩ := hitems.out W6 hpu.fr k (gd, m) HPK.out; cases e'; dsimp only at x0 x1; clear hown5 hgrow5 hloc5 hg5 hob5 hpu)
          have hl6 : (o ++ [(s, n)]).length = lo + 1 := by rw [List.length_append, HLO.out]; rfl
          have HL6 := Lib.hid hl6
          clear hl6
          refine wp_region_eff [(7, true), (8, false), (10, false)] [9] 8 (by kernel_rfl) rfl (by kernel_rfl) (by kernel_rfl) ?_
          apply Exists.intro
          refine ⟨?hh, ?pu, ?ef⟩
          case hh =>
            intro X
            have b3 := FrW.cell (X.fr.cell b3 (fun e => e)); have o3 := FrW.cell (X.fr.cell o3 (fun e => e)); have x0 := FrW.cell (X.fr.cell x0 (fun e => e)); have x1 := FrW.cell (X.fr.cell x1 (fun e => e))
            simp (config := { decide := true }) only [boxedF, efIdx, List.map_cons, List.map_nil, idleU, if_true, if_false, ite_true, ite_false]
            repeat (go_big_quiet_step (fail))
            exact wpQuiet_nil rfl
          case pu =>
            intro i' hi' o' ho
            simp only [List.mem_cons, List.not_mem_nil, or_false] at hi'
            subst hi'
            cases ho
            apply Exists.intro
            intro w'
            simp [execOp, Act.eval, go_sem]
            try exact rfl
          case ef =>
            simp only [efOps, List.filterMap_cons, List.filterMap_nil, List.getElem?_cons_succ, List.getElem?_cons_zero, Option.map_some]
            clear b3 o3 x0 x1
            intro w13 hw13
            have HW13 := Lib.hid hw13
            clear hw13
            go_wp2_with fail
            refine ⟨(Fr.refl _ _).alloc _, ?_⟩
            intro w14 hw14
            have HW14 := Lib.hid hw14
            have HF24 : Hid (Fr (fun _ => False) W6 w14) := Lib.hid (HW13.out.trans (((Fr.refl (fun _ => False) w13).alloc _).trans hw14))
            have HI14 := Lib.hid (HI6.out.keep HF24.out)
            have HROW14 : Hid (w14.ownsRow (n0 + 3) 118 2 (.slice a5 (lo + 1) c5') (lo + 1) (itCs (o ++ [(s, n)]))) := Lib.hid (by have := HI14.out.row; rw [HL6.out] at this; exact this)
            have HSZ14 : Hid (n0 + 3 ≤ w14.heap.size) := Lib.hid (by have := (Array.getElem?_eq_some_iff.1 HI14.out.ob).1; omega)
            clear hw14
            go_wp2_with (at_builtin; refine wpList_append_src rfl _ _ 57 rfl (n0 + 3) 118 i0 (.agg #[.string ⟨#[]⟩, .int .i64 0]) 24 Tryz.underlying57 hi' hz0 hz1 hz2 rfl (by decide) (.slice a5 (lo + 1) c5') (lo + 1) (itCs (o ++ [(s, n)])) rfl HROW14.out 1 rfl (rd_obj (cs := [vS gd, .int .i64 m]) (HW14.out.at_ (heap_new _ _) (fun e => e)) rfl) (by intro u hu; simp only [List.mem_cons, List.not_mem_nil, or_false] at hu; rcases hu with rfl | rfl <;> rfl) (by have := HFLO.out; unfold maxLen; omega) (by have := HFLO.out; omega) HSZ14.out ?_; intro v15 w15 hown15 hgrow15 hloc15; have HO15 := Lib.hid hown15; have HG15 := Lib.hid (Fr.grown (S := fun c => (Value.slice a5 (lo + 1) c5').ownBlock = some c) hgrow15 (fun c hc _ => hc)); obtain ⟨a15, c15, rfl⟩ := row_sl hown15; clear hown15 hgrow15 hloc15)
            intro w16 hw16
            have HG16 : Hid (Fr (fun c => (Value.slice a5 (lo + 1) c5').ownBlock = some c) w14 w16) := Lib.hid (HG15.out.trans (hw16.mono (fun _ _ e => e.elim)))
            have hob16 := HG16.out.at_ HI14.out.ob (fun e => by have := (HROW14.out.lt _ e).1; omega)
            have g3 := cell_obj hob16 3 (.slice a5 (lo + 1) c5') rfl
            have gf3 := obj_frozen hob16 3
            have hpu := HI14.out.push (p := (gd, m)) HS.out HG16.out (by rw [HL6.out]; exact hw16.row HO15.out (fun _ _ e => e))
            have HPU := Lib.hid hpu
            clear hob16 hpu hw16
            go_wp2_with fail
            intro w18 hw18
            have HPU8 := Lib.hid (HPU.out.keep hw18)
            clear hw18 g3 gf3
            go_wp2_with fail
            go_roundw
            case rel => exact ⟨k + 1, _, by omega, by rw [hfin.out], by go_num, by rw [hfin.out]; exact HPU8.out⟩
            case measure => simp [intOf]; omega
      · rw [if_neg hnow] at hnext
        by_cases heq : gd = s
        · have q2 : (gd == s) = true := by simpa using heq
          rw [if_pos heq] at hnext
          have hfin := hnext
          have hdk : dk = true := by
            cases hd : dk with
            | true => rfl
            | false => exact absurd ⟨hd, by rw [heq]; exact str_irr _⟩ hnow
          subst hdk
          clear heq hnow
          go_wp2_with fail
          go_roundw
          case rel => exact ⟨k + 1, _, by omega, by rw [hfin.out], by go_num, by rw [hfin.out]; exact HI.out⟩
          case measure => simp [intOf]; omega
        · have q2 : (gd == s) = false := by simpa using heq
          rw [if_neg heq] at hnext
          have hfin := hnext
          have hways : dk = true ∨ (dk = false ∧ Op.bytesLess gd s = true) := by
            cases hd : dk with
            | true => exact .inl rfl
            | false => exact .inr ⟨rfl, by rw [bytesLess_eq]; exact decide_eq_true (Classical.byContradiction fun e => hnow ⟨hd, e⟩)⟩
          clear heq hnow
          rcases hways with hdk | ⟨hdk, q1⟩
          · subst hdk
            go_wp2_with fail
            refine wp_region_eff [(7, true), (8, false), (10, false)] [9] 8 (by kernel_rfl) rfl (by kernel_rfl) (by kernel_rfl) ?_
            apply Exists.intro
            refine ⟨?hh, ?pu, ?ef⟩
            case hh =>
              intro X
              have b3 := FrW.cell (X.fr.cell b3 (fun e => e)); have o3 := FrW.cell (X.fr.cell o3 (fun e => e)); have x0 := FrW.cell (X.fr.cell x0 (fun e => e)); have x1 := FrW.cell (X.fr.cell x1 (fun e => e))
              simp (config := { decide := true }) only [boxedF, efIdx, List.map_cons, List.map_nil, idleU, if_true, if_false, ite_true, ite_false]
              repeat (go_big_quiet_step (fail))
              exact wpQuiet_nil rfl
            case pu =>
              intro i' hi' o' ho
              simp only [List.mem_cons, List.not_mem_nil, or_false] at hi'
              subst hi'
              cases ho
              apply Exists.intro
              intro w'
              simp [execOp, Act.eval, go_sem]
              try exact rfl
            case ef =>
              simp only [efOps, List.filterMap_cons, List.filterMap_nil, List.getElem?_cons_succ, List.getElem?_cons_zero, Option.map_some]
              clear b3 o3 x0 x1
              intro w13 hw13
              have HW13 := Lib.hid hw13
              clear hw13
              go_wp2_with fail
              refine ⟨(Fr.refl _ _).alloc _, ?_⟩
              intro w14 hw14
              have HW14 := Lib.hid hw14
              have HF24 : Hid (Fr (fun _ => False) wr w14) := Lib.hid (HW13.out.trans (((Fr.refl (fun _ => False) w13).alloc _).trans hw14))
              have HI14 := Lib.hid (HI.out.keep HF24.out)
              have HROW14 : Hid (w14.ownsRow (n0 + 3) 118 2 (.slice oa lo oc) lo (itCs o)) := Lib.hid (by have := HI14.out.row; rw [HLO.out] at this; exact this)
              have HSZ14 : Hid (n0 + 3 ≤ w14.heap.size) := Lib.hid (by have := (Array.getElem?_eq_some_iff.1 HI14.out.ob).1; omega)
              clear hw14
              go_wp2_with (at_builtin; refine wpList_append_src rfl _ _ 57 rfl (n0 + 3) 118 i0 (.agg #[.string ⟨#[]⟩, .int .i64 0]) 24 Tryz.underlying57 hi' hz0 hz1 hz2 rfl (by decide) (.slice oa lo oc) lo (itCs o) rfl HROW14.out 1 rfl (rd_obj (cs := [vS gd, .int .i64 m]) (HW14.out.at_ (heap_new _ _) (fun e => e)) rfl) (by intro u hu; simp only [List.mem_cons, List.not_mem_nil, or_false] at hu; rcases hu with rfl | rfl <;> rfl) (by have := HFLO.out; unfold maxLen; omega) (by have := HFLO.out; omega) HSZ14.out ?_; intro v15 w15 hown15 hgrow15 hloc15; have HO15 := Lib.hid hown15; have HG15 := Lib.hid (Fr.grown (S := fun c => (Value.slice oa lo oc).ownBlock = some c) hgrow15 (fun c hc _ => hc)); obtain ⟨a15, c15, rfl⟩ := row_sl hown15; clear hown15 hgrow15 hloc15)
              intro w16 hw16
              have HG16 : Hid (Fr (fun c => (Value.slice oa lo oc).ownBlock = some c) w14 w16) := Lib.hid (HG15.out.trans (hw16.mono (fun _ _ e => e.elim)))
              have hob16 := HG16.out.at_ HI14.out.ob (fun e => by have := (HROW14.out.lt _ e).1; omega)
              have g3 := cell_obj hob16 3 (.slice oa lo oc) rfl
              have gf3 := obj_frozen hob16 3
              have hpu := HI14.out.push (p := (gd, m)) HS.out HG16.out (by rw [HLO.out]; exact hw16.row HO15.out (fun _ _ e => e))
              have HPU := Lib.hid hpu
              clear hob16 hpu hw16
              go_wp2_with fail
              intro w18 hw18
              have HPU8 := Lib.hid (HPU.out.keep hw18)
              clear hw18 g3 gf3
              go_wp2_with fail
              go_roundw
              case rel => exact ⟨k + 1, _, by omega, by rw [hfin.out], by go_num, by rw [hfin.out]; exact HPU8.out⟩
              case measure => simp [intOf]; omega
          · subst hdk
            go_wp2_with fail
            refine wp_region_eff [(7, true), (8, false), (10, false)] [9] 8 (by kernel_rfl) rfl (by kernel_rfl) (by kernel_rfl) ?_
            apply Exists.intro
            refine ⟨?hh, ?pu, ?ef⟩
            case hh =>
              intro X
              have b3 := FrW.cell (X.fr.cell b3 (fun e => e)); have o3 := FrW.cell (X.fr.cell o3 (fun e => e)); have x0 := FrW.cell (X.fr.cell x0 (fun e => e)); have x1 := FrW.cell (X.fr.cell x1 (fun e => e))
              simp (config := { decide := true }) only [boxedF, efIdx, List.map_cons, List.map_nil, idleU, if_true, if_false, ite_true, ite_false]
              repeat (go_big_quiet_step (fail))
              exact wpQuiet_nil rfl
            case pu =>
              intro i' hi' o' ho
              simp only [List.mem_cons, List.not_mem_nil, or_false] at hi'
              subst hi'
              cases ho
              apply Exists.intro
              intro w'
              simp [execOp, Act.eval, go_sem]
              try exact rfl
            case ef =>
              simp only [efOps, List.filterMap_cons, List.filterMap_nil, List.getElem?_cons_succ, List.getElem?_cons_zero, Option.map_some]
              clear b3 o3 x0 x1
              intro w13 hw13
              have HW13 := Lib.hid hw13
              clear hw13
              go_wp2_with fail
              refine ⟨(Fr.refl _ _).alloc _, ?_⟩
              intro w14 hw14
              have HW14 := Lib.hid hw14
              have HF24 : Hid (Fr (fun _ => False) wr w14) := Lib.hid (HW13.out.trans (((Fr.refl (fun _ => False) w13).alloc _).trans hw14))
              have HI14 := Lib.hid (HI.out.keep HF24.out)
              have HROW14 : Hid (w14.ownsRow (n0 + 3) 118 2 (.slice oa lo oc) lo (itCs o)) := Lib.hid (by have := HI14.out.row; rw [HLO.out] at this; exact this)
              have HSZ14 : Hid (n0 + 3 ≤ w14.heap.size) := Lib.hid (by have := (Array.getElem?_eq_some_iff.1 HI14.out.ob).1; omega)
              clear hw14
              go_wp2_with (at_builtin; refine wpList_append_src rfl _ _ 57 rfl (n0 + 3) 118 i0 (.agg #[.string ⟨#[]⟩, .int .i64 0]) 24 Tryz.underlying57 hi' hz0 hz1 hz2 rfl (by decide) (.slice oa lo oc) lo (itCs o) rfl HROW14.out 1 rfl (rd_obj (cs := [vS gd, .int .i64 m]) (HW14.out.at_ (heap_new _ _) (fun e => e)) rfl) (by intro u hu; simp only [List.mem_cons, List.not_mem_nil, or_false] at hu; rcases hu with rfl | rfl <;> rfl) (by have := HFLO.out; unfold maxLen; omega) (by have := HFLO.out; omega) HSZ14.out ?_; intro v15 w15 hown15 hgrow15 hloc15; have HO15 := Lib.hid hown15; have HG15 := Lib.hid (Fr.grown (S := fun c => (Value.slice oa lo oc).ownBlock = some c) hgrow15 (fun c hc _ => hc)); obtain ⟨a15, c15, rfl⟩ := row_sl hown15; clear hown15 hgrow15 hloc15)
              intro w16 hw16
              have HG16 : Hid (Fr (fun c => (Value.slice oa lo oc).ownBlock = some c) w14 w16) := Lib.hid (HG15.out.trans (hw16.mono (fun _ _ e => e.elim)))
              have hob16 := HG16.out.at_ HI14.out.ob (fun e => by have := (HROW14.out.lt _ e).1; omega)
              have g3 := cell_obj hob16 3 (.slice oa lo oc) rfl
              have gf3 := obj_frozen hob16 3
              have hpu := HI14.out.push (p := (gd, m)) HS.out HG16.out (by rw [HLO.out]; exact hw16.row HO15.out (fun _ _ e => e))
              have HPU := Lib.hid hpu
              clear hob16 hpu hw16
              go_wp2_with fail
              intro w18 hw18
              have HPU8 := Lib.hid (HPU.out.keep hw18)
              clear hw18 g3 gf3
              go_wp2_with fail
              go_roundw
              case rel => exact ⟨k + 1, _, by omega, by rw [hfin.out], by go_num, by rw [hfin.out]; exact HPU8.out⟩
              case measure => simp [intOf]; omega
    · obtain rfl : k = N := by omega
      have hkI : ¬ (k : Int) < k := by omega
      obtain ⟨dk, o, hfd⟩ : ∃ dk o, FD k = (dk, o) := ⟨_, _, rfl⟩
      have hres2 : RS = if dk = true then o else o ++ [(s, n)] := by rw [HRES.out, hfd]
      have hfo := HFO.out k
      rw [hfd] at HI o3 hfl hfo ⊢
      dsimp only at HI o3 hfl hfo ⊢
      obtain ⟨lo, hlo⟩ : ∃ lo, o.length = lo := ⟨_, rfl⟩
      rw [hlo] at HI o3 hfl
      have HLO := Lib.hid hlo; have HFO2 := Lib.hid hfo
      have HEND : Hid (∀ (W : World) (lv : Value) (O : Its), RsI w W n0 nu zo ro (.slice la k lc) lv O → (∀ p ∈ O, okS p.1 ∧ okI p.2) → ∀ W', Fr (fun c => c = n0 + 1) W W' → BOk W' ⟨nu, zo, ro, lv, O⟩ ∧ (∀ c, lv.ownBlock = some c → n0 ≤ c ∧ ∃ cur, W'.heap[c]? = some (.cells cur 118)) ∧ Fr (fun _ => False) w W') := Lib.hid (fun W lv O h hok W' hf => by
        have hil := Il.own h.row hok
        have hlt : ∀ c, lv.ownBlock = some c → n0 + 3 ≤ c := fun c hc => (h.row.lt c hc).1
        refine ⟨⟨HOC.out.1, HOC.out.2.1, HOC.out.2.2, hil.1.keep hf (fun _ c hc e => by have := hlt c hc; have e : c = n0 + 1 := e; omega)⟩, fun c hc => ?_, h.fr.trans' hf (fun c hc e => by have := HS.out; have e : c = n0 + 1 := e; omega)⟩
        have h3 := hlt c hc
        have hty : ∃ cur, W.heap[c]? = some (.cells cur 118) := by
          rcases h.row.2 with ⟨rfl, _⟩ | ⟨g, cap, cur, rfl, _, hb, _⟩
          · cases hc
          · cases hc; exact ⟨cur, hb⟩
        obtain ⟨cur, hcur⟩ := hty
        exact ⟨by omega, cur, hf.at_ hcur (by omega)⟩)
      clear hI hfd hlo hfo
      cases dk with
      | true =>
        have hR : Hid (RS = o) := Lib.hid (by rw [hres2, if_pos rfl])
        have d0 := cell_obj HI.out.ob 0 (.int .i64 nu) rfl; have d1 := cell_obj HI.out.ob 1 (.int .i64 zo) rfl; have d2 := cell_obj HI.out.ob 2 (.int .i64 ro) rfl
        have r0 := cell_obj HI.out.res 0 (.int .i64 0) rfl; have r1 := cell_obj HI.out.res 1 (.int .i64 0) rfl; have r2 := cell_obj HI.out.res 2 (.int .i64 0) rfl; have r3 := cell_obj HI.out.res 3 (.slice none 0 0) rfl
        have e0 := obj_frozen HI.out.res 0; have e1 := obj_frozen HI.out.res 1; have e2 := obj_frozen HI.out.res 2; have e3 := obj_frozen HI.out.res 3
        clear hres2
        go_wp2_with fail
        obtain ⟨W9, hW9⟩ : ∃ W, (((wr.setCell ⟨n0 + 1, 0, none⟩ (.int .i64 nu)).setCell ⟨n0 + 1, 1, none⟩ (.int .i64 zo)).setCell ⟨n0 + 1, 2, none⟩ (.int .i64 ro)).setCell ⟨n0 + 1, 3, none⟩ (.slice oa lo oc) = W := ⟨_, rfl⟩
        rw [hW9]
        have hf9 : Fr (fun c => c = n0 + 1) wr W9 := by
          rw [← hW9]
          exact Fr.setCell (S := fun c => c = n0 + 1) (Fr.setCell (S := fun c => c = n0 + 1) (Fr.setCell (S := fun c => c = n0 + 1) (Fr.setCell (S := fun c => c = n0 + 1) (Fr.refl _ _) (p := ⟨n0 + 1, 0, none⟩) (fun _ => rfl) _) (p := ⟨n0 + 1, 1, none⟩) (fun _ => rfl) _) (p := ⟨n0 + 1, 2, none⟩) (fun _ => rfl) _) (p := ⟨n0 + 1, 3, none⟩) (fun _ => rfl) _
        have hr9 : W9.heap[n0 + 1]? = some (.cells #[.int .i64 nu, .int .i64 zo, .int .i64 ro, .slice oa lo oc] 75) := by
          rw [← hW9, obj_set (obj_set (obj_set (obj_set HI.out.res 0 _) 1 _) 2 _) 3 _]; rfl
        have y0 := cell_obj hr9 0 (.int .i64 nu) rfl; have y1 := cell_obj hr9 1 (.int .i64 zo) rfl; have y2 := cell_obj hr9 2 (.int .i64 ro) rfl; have y3 := cell_obj hr9 3 (.slice oa lo oc) rfl
        refine bodyPost_ret (v := .agg #[.int .i64 nu, .int .i64 zo, .int .i64 ro, .slice oa lo oc]) (by simp [results, Tryz.results88, go_sem, y0, y1, y2, y3]) rfl ?_
        refine ⟨.slice oa lo oc, rfl, ?_⟩
        rw [hR.out]
        have := HEND.out wr (.slice oa lo oc) o HI.out HFO2.out W9 hf9
        exact this
      | false =>
        have hR : Hid (RS = o ++ [(s, n)]) := Lib.hid (by rw [hres2, if_neg (by simp)])
        clear hres2
        go_wp2_with (at_builtin; refine wpList_append_src rfl _ _ 57 rfl (n0 + 3) 118 i0 (.agg #[.string ⟨#[]⟩, .int .i64 0]) 24 Tryz.underlying57 hi' hz0 hz1 hz2 rfl (by decide) (.slice oa lo oc) lo (itCs o) rfl (((Fr.refl (fun _ => False) wr).alloc _).row (by have := HI.out.row; rw [HLO.out] at this; exact this) (fun _ _ e => e)) 1 rfl (rd_obj (cs := [vS s, .int .i64 n]) (heap_new _ _) rfl) (by intro u hu; simp only [List.mem_cons, List.not_mem_nil, or_false] at hu; rcases hu with rfl | rfl <;> rfl) (by unfold maxLen; omega) (by omega) (by have := (Array.getElem?_eq_some_iff.1 HI.out.ob).1; simp; omega) ?_; intro v5 w5 hown5 hgrow5 hloc5; have hg5 : Fr (fun c => (Value.slice oa lo oc).ownBlock = some c) wr w5 := ((Fr.refl (fun c => (Value.slice oa lo oc).ownBlock = some c) wr).alloc _).trans (Fr.grown hgrow5 (fun r hr _ => hr)); have hob5 := hg5.at_ HI.out.ob (fun e => by have h1 := HI.out.row; rw [HLO.out] at h1; have := (h1.lt _ e).1; omega); have c5 := cell_obj hob5 3 (.slice oa lo oc) rfl; have f5 := obj_frozen hob5 3; have hpu := HI.out.push (p := (s, n)) HS.out hg5 (by rw [HLO.out]; exact hown5); obtain ⟨a5, c5', hv5⟩ := row_sl hown5; subst hv5; obtain ⟨W6, hW6⟩ : ∃ W, w5.setCell ⟨n0 + 2, 3, none⟩ (.slice a5 (lo + 1) c5') = W := ⟨_, rfl⟩; rw [hW6] at hpu; have HI6 := Lib.hid hpu; have d0 := cell_obj hpu.ob 0 (.int .i64 nu) rfl; have d1 := cell_obj hpu.ob 1 (.int .i64 zo) rfl; have d2 := cell_obj hpu.ob 2 (.int .i64 ro) rfl; have d3 := cell_obj hpu.ob 3 (.slice a5 (lo + 1) c5') rfl; have r0 := cell_obj hpu.res 0 (.int .i64 0) rfl; have r1 := cell_obj hpu.res 1 (.int .i64 0) rfl; have r2 := cell_obj hpu.res 2 (.int .i64 0) rfl; have r3 := cell_obj hpu.res 3 (.slice none 0 0) rfl; have e0 := obj_frozen hpu.res 0; have e1 := obj_frozen hpu.res 1; have e2 := obj_frozen hpu.res 2; have e3 := obj_frozen hpu.res 3; clear hown5 hgrow5 hloc5 hg5 hob5 hpu)
        obtain ⟨W9, hW9⟩ : ∃ W, (((W6.setCell ⟨n0 + 1, 0, none⟩ (.int .i64 nu)).setCell ⟨n0 + 1, 1, none⟩ (.int .i64 zo)).setCell ⟨n0 + 1, 2, none⟩ (.int .i64 ro)).setCell ⟨n0 + 1, 3, none⟩ (.slice a5 (lo + 1) c5') = W := ⟨_, rfl⟩
        rw [hW9]
        have hf9 : Fr (fun c => c = n0 + 1) W6 W9 := by
          rw [← hW9]
          exact Fr.setCell (S := fun c => c = n0 + 1) (Fr.setCell (S := fun c => c = n0 + 1) (Fr.setCell (S := fun c => c = n0 + 1) (Fr.setCell (S := fun c => c = n0 + 1) (Fr.refl _ _) (p := ⟨n0 + 1, 0, none⟩) (fun _ => rfl) _) (p := ⟨n0 + 1, 1, none⟩) (fun _ => rfl) _) (p := ⟨n0 + 1, 2, none⟩) (fun _ => rfl) _) (p := ⟨n0 + 1, 3, none⟩) (fun _ => rfl) _
        have hr9 : W9.heap[n0 + 1]? = some (.cells #[.int .i64 nu, .int .i64 zo, .int .i64 ro, .slice a5 (lo + 1) c5'] 75) := by
          rw [← hW9, obj_set (obj_set (obj_set (obj_set HI6.out.res 0 _) 1 _) 2 _) 3 _]; rfl
        have y0 := cell_obj hr9 0 (.int .i64 nu) rfl; have y1 := cell_obj hr9 1 (.int .i64 zo) rfl; have y2 := cell_obj hr9 2 (.int .i64 ro) rfl; have y3 := cell_obj hr9 3 (.slice a5 (lo + 1) c5') rfl
        refine bodyPost_ret (v := .agg #[.int .i64 nu, .int .i64 zo, .int .i64 ro, .slice a5 (lo + 1) c5']) (by simp [results, Tryz.results88, go_sem, y0, y1, y2, y3]) rfl ?_
        refine ⟨.slice a5 (lo + 1) c5', rfl, ?_⟩
        rw [hR.out]
        exact HEND.out W6 (.slice a5 (lo + 1) c5') (o ++ [(s, n)]) HI6.out (fun p hp => by
          rcases List.mem_append.1 hp with hp | hp
          · exact HFO2.out p hp
          · rw [List.mem_singleton.1 hp]; exact ⟨HS1.out, HN1.out⟩) W9 hf9
end Go.Proofs.YtefjdcghdcbojaaGreat

namespace Go.Proofs.YtefjdcghdcbojaaGreat
open Go.RowKit Go.Maps
structure SrI (w0 : World) (O : Nat → Prop) (r cap N : Nat) (PE : BE → Prop) (W : World) (Lj : List BV) (vo : Value) (out : List PV) : Prop where
  row : ∃ cur, W.heap[r]? = some (.cells cur 75) ∧ cur.size = cap * 4 ∧ cur.toList.take (N * 4) = flat BV.cs Lj
  len : Lj.length = N
  le : N ≤ cap
  bins : ∀ b ∈ Lj, BOk W b ∧ PE b.e ∧ (b.its ≠ [] → ∀ c, b.l.ownBlock = some c → c ≠ r ∧ vo.ownBlock ≠ some c ∧ (O c ∨ w0.heap.size ≤ c))
  out : W.ownsRow w0.heap.size 47 3 vo out.length (flat pvC out)
  oner : vo.ownBlock ≠ some r
  fr : Fr (fun _ => False) w0 W
  low : w0.heap.size ≤ r
section
variable {w0 W W' : World} {O : Nat → Prop} {r cap N : Nat} {PE : BE → Prop} {Lj : List BV} {vo : Value} {out : List PV}
theorem SrI.keep0 (h : SrI w0 O r cap N PE W Lj vo out) (hf : Fr (fun _ => False) W W') : SrI w0 O r cap N PE W' Lj vo out := by
  obtain ⟨⟨cur, h1, h2⟩, h3, hle, h4, h5, h6, h7, h8⟩ := h
  exact ⟨⟨cur, hf.at_ h1 (fun e => e), h2⟩, h3, hle, fun b hb => ⟨(h4 b hb).1.keep hf (fun _ _ _ e => e), (h4 b hb).2⟩, hf.row h5 (fun _ _ e => e), h6, h7.trans hf, h8⟩
theorem SrI.cells (h : SrI w0 O r cap N PE W Lj vo out) {i : Nat} {x : BV} (hx : Lj[i]? = some x) :
    W.cell? ⟨r, i * 4, none⟩ = some (.int .i64 x.nu) ∧ W.cell? ⟨r, i * 4 + 1, none⟩ = some (.int .i64 x.zo) ∧ W.cell? ⟨r, i * 4 + 2, none⟩ = some (.int .i64 x.ro) ∧ W.cell? ⟨r, i * 4 + 3, none⟩ = some x.l ∧ ∀ q, W.frozen? ⟨r, q, none⟩ = false := by
  obtain ⟨⟨cur, h1, h2, h3⟩, hl, hle, -⟩ := h
  have hi := (List.getElem?_eq_some_iff.1 hx).1
  have h4 : (i + 1) * 4 ≤ N * 4 := Nat.mul_le_mul_right 4 (by omega)
  have key : ∀ (q : Nat) (u : Value), q < 4 → (BV.cs x)[q]? = some u → W.cell? ⟨r, i * 4 + q, none⟩ = some u := fun q u hq hu => by
    refine cell_obj h1 _ _ ?_
    rw [← Array.getElem?_toList, take_get h3 (by omega)]
    exact flat_at bvSize hx q u hu
  exact ⟨key 0 _ (by omega) rfl, key 1 _ (by omega) rfl, key 2 _ (by omega) rfl, key 3 _ (by omega) rfl, fun q => obj_frozen h1 q⟩
theorem SrI.store (h : SrI w0 O r cap N PE W Lj vo out) {i : Nat} {x b : BV} (hx : Lj[i]? = some x) (hb : BOk W b) (hP : PE b.e) (hne : ∀ c, b.l.ownBlock = some c → c ≠ r ∧ vo.ownBlock ≠ some c ∧ (O c ∨ w0.heap.size ≤ c)) : SrI w0 O r cap N PE (W.setCells r (i * 4) (BV.cs b).toList) (Lj.set i b) vo out := by
  obtain ⟨⟨cur, h1, h2, h3⟩, hl, hle, h4, h5, h6, h7, h8⟩ := h
  have hi := (List.getElem?_eq_some_iff.1 hx).1
  have g1 : (i + 1) * 4 ≤ N * 4 := Nat.mul_le_mul_right 4 (by omega)
  have g2 : N * 4 ≤ cap * 4 := Nat.mul_le_mul_right 4 hle
  have hcl : (BV.cs b).toList.length = 4 := rfl
  obtain ⟨cur', c1, c2, c3⟩ := row_setCells (BV.cs b).toList (i * 4) h1 (by rw [hcl]; omega)
  have hf : Fr (fun c => c = r) W (W.setCells r (i * 4) (BV.cs b).toList) := fr_setCells _ _ (Fr.refl _ W) (fun _ => rfl)
  have hlen : (flat BV.cs (Lj.set i b)).length = N * 4 := by rw [flat_len1 bvSize, List.length_set, hl]
  refine ⟨⟨cur', c1, by omega, ?_⟩, by rw [List.length_set]; exact hl, hle, fun y hy => ?_, hf.row h5 (fun c hc e => h6 (by rw [hc, e])), h6, h7.trans' hf (fun c hc e => by omega), h8⟩
  · apply List.ext_getElem?
    intro q
    by_cases hq : q < N * 4
    · rw [List.getElem?_take_of_lt hq, Array.getElem?_toList, c3 q, hcl]
      obtain ⟨y, hy⟩ : ∃ y, (Lj.set i b)[q / 4]? = some y := ⟨_, List.getElem?_eq_getElem (by rw [List.length_set]; omega)⟩
      have hys : (BV.cs y)[q % 4]? = some ((BV.cs y)[q % 4]'(by rw [bvSize]; omega)) := Array.getElem?_eq_getElem _
      have h10 := flat_at bvSize hy (q % 4) _ hys
      rw [show q / 4 * 4 + q % 4 = q by omega] at h10
      rw [h10]
      rcases set_get hy with ⟨e1, e2⟩ | ⟨e1, e2⟩
      · subst e2
        rw [if_pos (by omega), Array.getElem?_toList, show q - i * 4 = q % 4 by omega]
        exact hys
      · rw [if_neg (by omega), ← Array.getElem?_toList, take_get h3 hq]
        have h11 := flat_at bvSize e2 (q % 4) _ hys
        rw [show q / 4 * 4 + q % 4 = q by omega] at h11
        exact h11
    · rw [List.getElem?_take_eq_none (by omega), List.getElem?_eq_none (by omega)]
  · obtain ⟨q, hq⟩ := List.getElem?_of_mem hy
    rcases set_get hq with ⟨-, rfl⟩ | ⟨-, e2⟩
    · exact ⟨hb.keep hf (fun _ c hc e => (hne c hc).1 e), hP, fun _ c hc => hne c hc⟩
    · obtain ⟨k1, k2, k3⟩ := h4 y (List.mem_of_getElem? e2)
      exact ⟨k1.keep hf (fun hn c hc e => (k3 hn c hc).1 e), k2, k3⟩
theorem SrI.push (h : SrI w0 O r cap N PE W Lj vo out) {vo' : Value} {p : PV} (hown : W'.ownsRow w0.heap.size 47 3 vo' (out.length + 1) (flat pvC out ++ [.int .i64 p.b, vS p.g, .int .i64 p.n])) (hg : W.grownBy W' vo.ownBlock) (hloc : vo'.ownBlock = vo.ownBlock ∨ vo'.ownBlock = some W.heap.size) : SrI w0 O r cap N PE W' Lj vo' (out ++ [p]) := by
  obtain ⟨⟨cur, h1, h2, h3⟩, hl, hle, h4, h5, h6, h7, h8⟩ := h
  have hf : Fr (fun c => vo.ownBlock = some c) W W' := Fr.grown hg (fun c hc _ => hc)
  have hr := (Array.getElem?_eq_some_iff.1 h1).1
  refine ⟨⟨cur, hf.at_ h1 h6, h2, h3⟩, hl, hle, fun b hb => ?_, by rw [flat_pv_snoc, List.length_append]; exact hown, fun e => ?_, h7.trans' hf (fun c hc e => by have := (h5.lt c e).1; omega), h8⟩
  · obtain ⟨k1, k2, k3⟩ := h4 b hb
    refine ⟨k1.keep hf (fun hn c hc e => (k3 hn c hc).2.1 e), k2, fun hn c hc => ⟨(k3 hn c hc).1, fun e => ?_, (k3 hn c hc).2.2⟩⟩
    rcases hloc with e2 | e2
    · exact (k3 hn c hc).2.1 (by rw [← e2, e])
    · rw [e2] at e
      injection e with e
      have := k1.l.lt hn c hc
      omega
  · rcases hloc with e2 | e2
    · exact h6 (by rw [← e2, e])
    · rw [e2] at e
      injection e with e
      omega
end
theorem SrI.start {w W : World} {g : Nat} {TS : Nat → Prop} {L : List BV} {v : Value} (PE : BE → Prop) (h : RA w g TS L) (hf : Fr (fun _ => False) w W) (ho : W.ownsRow w.heap.size 75 4 v L.length (flat BV.cs L)) (hL : 0 < L.length) (hP : ∀ b ∈ L, PE b.e) :
    ∃ r cap, v = .slice (some ⟨r, 0, none⟩) L.length cap ∧ cap ≤ maxLen ∧ SrI w (fun c => TS c ∧ c ≠ g) r cap L.length PE W L (.slice none 0 0) [] := by
  rcases ho.2 with ⟨e, h0⟩ | ⟨r, cap, cur, e, hbase, hb, hn', hm, hsz, ht⟩
  · omega
  · refine ⟨r, cap, e, hm, ⟨cur, hb, hsz, ht⟩, rfl, hn', fun b hb' => ?_, World.ownsRow_nil _ _ _ _, by simp [Value.ownBlock], hf, hbase⟩
    obtain ⟨⟨_, _, _, _, _, _, _, _, _, _, _, h9⟩, _, hlt⟩ := h
    obtain ⟨k1, k2⟩ := h9 b hb'
    refine ⟨k1.keep hf (fun _ _ _ e => e), hP b hb', fun hne c hc => ?_⟩
    obtain ⟨j1, j2, -⟩ := k2 hne c hc
    exact ⟨by have := hlt c j1; omega, by simp [Value.ownBlock], .inl ⟨j1, j2⟩⟩
/-- The rows are laid into the floor. -/
theorem SrI.done {w W : World} {g r cap N : Nat} {TS : Nat → Prop} {L Lj : List BV} {PE : BE → Prop} {vo : Value} {out : List PV} (h : RA w g TS L) (hN : L.length = N) (hI : SrI w (fun c => TS c ∧ c ≠ g) r cap N PE W Lj vo out) (hcm : cap ≤ maxLen) :
    W.cell? ⟨g, 0, none⟩ ≠ none ∧ W.frozen? ⟨g, 0, none⟩ = false ∧ (∃ v, W.cell? ⟨g, 0, none⟩ = some v) ∧ RA (W.setCell ⟨g, 0, none⟩ (.slice (some ⟨r, 0, none⟩) N cap)) g (fun b => TS b ∨ (w.heap.size ≤ b ∧ b < W.heap.size)) Lj ∧ Fr (fun c => c = g) W (W.setCell ⟨g, 0, none⟩ (.slice (some ⟨r, 0, none⟩) N cap)) := by
  obtain ⟨⟨r', cap', cur', h1, h2, h3, h4, h5, h6, h7, h8, h9⟩, hog, hlt'⟩ := h
  have hgl := hlt' g hog
  have hgc := hI.fr.at_ h1 (fun e => e)
  have hfs : Fr (fun c => c = g) W (W.setCell ⟨g, 0, none⟩ (.slice (some ⟨r, 0, none⟩) N cap)) := (Fr.refl (fun c => c = g) W).setCell (p := ⟨g, 0, none⟩) (fun _ => rfl) _
  have hgr : g ≠ r := by have := hI.low; omega
  have hrl := hI.fr.size
  have hc0 := cell_obj hgc 0 (.slice (some ⟨r', 0, none⟩) L.length cap') rfl
  refine ⟨by rw [hc0]; simp, obj_frozen hgc 0, ⟨_, hc0⟩, ?_, hfs⟩
  obtain ⟨⟨cur, k1, k2, k3⟩, k4, k5, k6, k7, k8, k9, k10⟩ := hI
  have hrw := (Array.getElem?_eq_some_iff.1 k1).1
  refine ⟨⟨r, cap, cur, ?_, hfs.at_ k1 (fun e => hgr e.symm), by rw [k4]; exact k5, hcm, k2, by rw [k4]; exact k3, .inr ⟨k10, hrw⟩, fun e => hgr e.symm, fun b hb => ?_⟩, .inl hog, fun b hb => ?_⟩
  · rw [k4]; exact obj_set hgc 0 _
  · obtain ⟨b1, b2, b3⟩ := k6 b hb
    have hne : ∀ c, b.its ≠ [] → b.l.ownBlock = some c → (TS c ∨ (w.heap.size ≤ c ∧ c < W.heap.size)) ∧ c ≠ g ∧ c ≠ r := fun c hn hc => by
      obtain ⟨c1', c2', c3'⟩ := b3 hn c hc
      rcases c3' with ⟨c4, c5⟩ | c4
      · exact ⟨.inl c4, c5, c1'⟩
      · exact ⟨.inr ⟨c4, b1.l.lt hn c hc⟩, by omega, c1'⟩
    exact ⟨b1.keep hfs (fun hn c hc e => (hne c hn hc).2.1 e), fun hn c hc => hne c hn hc⟩
  · rcases hb with hb | hb
    · have := hlt' b hb
      simp [World.setCell]
      omega
    · simp [World.setCell]
      omega
end Go.Proofs.YtefjdcghdcbojaaGreat

namespace Go.Proofs.YtefjdcghdcbojaaGreat
open Go.RowKit Go.Maps
def lastB (B : List BI) : Nat → Int
  | 0 => 0
  | k + 1 => match B[k]? with | some b => b.nu | none => 0
theorem lastB_succ {B : List BI} {k : Nat} {b : BI} (h : B[k]? = some b) : lastB B (k + 1) = b.nu := by
  show (match B[k]? with | some b => b.nu | none => 0) = b.nu
  rw [h]
theorem bOkL_no {last : Int} {b : BI} {r : List BI} (h : b.nu < 1 ∨ 4096 < b.nu ∨ b.zo < 0 ∨ 15 < b.zo ∨ b.ro < 1 ∨ 1099511627776 < b.ro ∨ b.nu ≤ last) : bOkL last (b :: r) = false := by
  show (mayBinF b.nu b.zo b.ro && decide (last < b.nu) && bOkL b.nu r) = false
  unfold mayBinF
  rw [Bool.eq_false_iff]
  intro e
  simp only [Bool.and_eq_true, decide_eq_true_eq] at e
  omega
theorem bOkL_yes {last : Int} {b : BI} {r : List BI} (h : 1 ≤ b.nu ∧ b.nu ≤ 4096 ∧ 0 ≤ b.zo ∧ b.zo ≤ 15 ∧ 1 ≤ b.ro ∧ b.ro ≤ 1099511627776 ∧ last < b.nu) : bOkL last (b :: r) = bOkL b.nu r := by
  show (mayBinF b.nu b.zo b.ro && decide (last < b.nu) && bOkL b.nu r) = _
  unfold mayBinF
  obtain ⟨h1, h2, h3, h4, h5, h6, h7⟩ := h
  simp [h1, h2, h3, h4, h5, h6, h7]
set_option maxRecDepth 100000 in
set_option maxHeartbeats 8000000 in
theorem rMay (w : World) (v : Value) (B : List BI) (h : Sbi w v B) : Calls Tryz.prog 12 #[v] w fun e w' => e = .returned (.bool (mayBs B)) ∧ Fr (fun _ => False) w w' := by
  obtain ⟨a, c, rfl⟩ := h.sl
  have HB := Lib.hid h
  have hlen := h.len
  obtain ⟨N, hN⟩ : ∃ N, B.length = N := ⟨_, rfl⟩
  have HN := Lib.hid hN
  rw [hN] at hlen ⊢
  have hMB : Hid (mayBs B = (decide (1 ≤ N) && decide (N ≤ 64) && bOkL 0 B)) := Lib.hid (by unfold mayBs; rw [hN])
  obtain ⟨R, hR⟩ : ∃ R, mayBs B = R := ⟨_, rfl⟩
  rw [hR] at hMB ⊢
  clear h hN hR
  go_enter Tryz.func12, Tryz.ntmps12
  go_wp2_with fail
  go_loopw [3] (fun vi wr => ∃ (k : Nat), k ≤ N ∧ vi = .int .i64 k ∧ bOkL 0 B = bOkL (lastB B k) (B.drop k) ∧ Fr (fun _ => False) w wr) (fun vi _ => N - (intOf vi).toNat)
  case atStart => exact ⟨0, Nat.zero_le _, rfl, rfl, Fr.refl _ _⟩
  case round =>
    obtain ⟨k, hk, rfl, hbo, hfr⟩ := hrel
    have HBO := Lib.hid hbo; have HFR := Lib.hid hfr
    by_cases hlt : k < N
    · obtain ⟨b, hb⟩ : ∃ b, B[k]? = some b := ⟨B[k]'(by rw [HN.out]; exact hlt), List.getElem?_eq_getElem _⟩
      have HDR := Lib.hid (drop_at hb)
      obtain ⟨ad, rfl, hok, z0, zs⟩ := (HB.out.fr0 okBiKeeps hfr).at_ hb
      have x0 := z0 (.int .i64 b.nu) rfl
      have x1 := zs 0 (.int .i64 b.zo) rfl
      have x2 := zs 1 (.int .i64 b.ro) rfl
      dsimp only [Nat.zero_add, Nat.reduceAdd] at x0 x1 x2
      have hkI : (k : Int) < N := by omega
      have HBB := Lib.hid hb
      have hnxt := Lib.hid (lastB_succ hb)
      have hk1 : Hid (k + 1 ≤ N) := Lib.hid hlt
      rcases Nat.eq_zero_or_pos k with hk0 | hk0
      · have hl0 : Hid (lastB B k = 0) := Lib.hid (by rw [hk0]; rfl)
        have hkz : ¬ (0 : Int) < k := by omega
        have hkn : ¬ 0 < k := by omega
        have hkd : decide (0 < k) = false := by simp [hk0]
        clear hk0
        have HNO : Hid ((b.nu < 1 ∨ 4096 < b.nu ∨ b.zo < 0 ∨ 15 < b.zo ∨ b.ro < 1 ∨ 1099511627776 < b.ro ∨ b.nu ≤ 0) → R = false) := Lib.hid (fun e => by rw [hMB.out, HBO.out, HDR.out, bOkL_no (by rw [hl0.out]; exact e)]; simp)
        clear hb hok z0 zs hbo hfr
        go_wp2_with fail
        obtain ⟨W5, hW5⟩ : ∃ W, wr.alloc (.cells #[.int .i64 b.nu, .int .i64 b.zo, .int .i64 b.ro] 56) = W := ⟨_, rfl⟩
        obtain ⟨m0, hm0⟩ : ∃ n, wr.heap.size = n := ⟨_, rfl⟩
        have hF5 : Fr (fun _ => False) wr W5 := by rw [← hW5]; exact (Fr.refl _ wr).alloc _
        have HF5 := Lib.hid (HFR.out.trans hF5)
        have hx5 : W5.heap[m0]? = some (.cells #[.int .i64 b.nu, .int .i64 b.zo, .int .i64 b.ro] 56) := by rw [← hW5]; exact heap_at hm0.symm _
        rw [hW5, hm0]
        have z0 := cell_obj hx5 0 (.int .i64 b.nu) rfl; have z1 := cell_obj hx5 1 (.int .i64 b.zo) rfl; have z2 := cell_obj hx5 2 (.int .i64 b.ro) rfl
        clear x0 x1 x2 hW5 hm0 hx5
        have z0 := FrW.cell z0; have z1 := FrW.cell z1; have z2 := FrW.cell z2
        by_cases h1 : b.nu < 1
        · skip
          refine wp_region_fr (by kernel_rfl) (by kernel_rfl) ?_
          repeat (go_big_quiet_step (fail))
          refine wpQuiet_nil ?_
          rintro V ⟨⟨_, hV⟩, rfl⟩
          go_wp2_with fail
          go_ret
          exact ⟨by rw [HNO.out (by omega)]; rfl, HF5.out.trans hV⟩
        by_cases h2 : 4096 < b.nu
        · skip
          refine wp_region_fr (by kernel_rfl) (by kernel_rfl) ?_
          repeat (go_big_quiet_step (fail))
          refine wpQuiet_nil ?_
          rintro V ⟨⟨_, hV⟩, rfl⟩
          go_wp2_with fail
          go_ret
          exact ⟨by rw [HNO.out (by omega)]; rfl, HF5.out.trans hV⟩
        by_cases h3 : b.zo < 0
        · skip
          refine wp_region_fr (by kernel_rfl) (by kernel_rfl) ?_
          repeat (go_big_quiet_step (fail))
          refine wpQuiet_nil ?_
          rintro V ⟨⟨_, hV⟩, rfl⟩
          go_wp2_with fail
          go_ret
          exact ⟨by rw [HNO.out (by omega)]; rfl, HF5.out.trans hV⟩
        by_cases h4 : 15 < b.zo
        · skip
          refine wp_region_fr (by kernel_rfl) (by kernel_rfl) ?_
          repeat (go_big_quiet_step (fail))
          refine wpQuiet_nil ?_
          rintro V ⟨⟨_, hV⟩, rfl⟩
          go_wp2_with fail
          go_ret
          exact ⟨by rw [HNO.out (by omega)]; rfl, HF5.out.trans hV⟩
        by_cases h5 : b.ro < 1
        · skip
          refine wp_region_fr (by kernel_rfl) (by kernel_rfl) ?_
          repeat (go_big_quiet_step (fail))
          refine wpQuiet_nil ?_
          rintro V ⟨⟨_, hV⟩, rfl⟩
          go_wp2_with fail
          go_ret
          exact ⟨by rw [HNO.out (by omega)]; rfl, HF5.out.trans hV⟩
        by_cases h6 : 1099511627776 < b.ro
        · skip
          refine wp_region_fr (by kernel_rfl) (by kernel_rfl) ?_
          repeat (go_big_quiet_step (fail))
          refine wpQuiet_nil ?_
          rintro V ⟨⟨_, hV⟩, rfl⟩
          go_wp2_with fail
          go_ret
          exact ⟨by rw [HNO.out (by omega)]; rfl, HF5.out.trans hV⟩
        refine wp_region_fr (by kernel_rfl) (by kernel_rfl) ?_
        repeat (go_big_quiet_step (fail))
        refine wpQuiet_nil ?_
        rintro V ⟨⟨_, hV⟩, rfl⟩
        go_wp2_with fail
        go_roundw
        case rel => exact ⟨_, hk1.out, by go_num, by rw [HBO.out, HDR.out, bOkL_yes (by rw [hl0.out]; omega), hnxt.out], HF5.out.trans hV⟩
        case measure => simp [intOf]; omega
      · obtain ⟨j, rfl⟩ : ∃ j, k = j + 1 := ⟨k - 1, by omega⟩
        have hkz : (0 : Int) < ((j + 1 : Nat) : Int) := by omega
        have hjk : ((j + 1 : Nat) : Int) - 1 = (j : Int) := by omega
        obtain ⟨p, hp⟩ : ∃ p, B[j]? = some p := ⟨B[j]'(by rw [HN.out]; omega), List.getElem?_eq_getElem _⟩
        obtain ⟨ad', e', -, y0, -⟩ := (HB.out.fr0 okBiKeeps hfr).at_ hp
        cases e'
        have y0 := y0 (.int .i64 p.nu) rfl
        have hlast := Lib.hid (lastB_succ hp)
        have HNO : Hid ((b.nu < 1 ∨ 4096 < b.nu ∨ b.zo < 0 ∨ 15 < b.zo ∨ b.ro < 1 ∨ 1099511627776 < b.ro ∨ b.nu ≤ p.nu) → R = false) := Lib.hid (fun e => by rw [hMB.out, HBO.out, HDR.out, bOkL_no (by rw [hlast.out]; exact e)]; simp)
        clear hb hok z0 zs hbo hfr hp
        go_wp2_with fail
        obtain ⟨W5, hW5⟩ : ∃ W, wr.alloc (.cells #[.int .i64 b.nu, .int .i64 b.zo, .int .i64 b.ro] 56) = W := ⟨_, rfl⟩
        obtain ⟨m0, hm0⟩ : ∃ n, wr.heap.size = n := ⟨_, rfl⟩
        have hF5 : Fr (fun _ => False) wr W5 := by rw [← hW5]; exact (Fr.refl _ wr).alloc _
        have HF5 := Lib.hid (HFR.out.trans hF5)
        have hx5 : W5.heap[m0]? = some (.cells #[.int .i64 b.nu, .int .i64 b.zo, .int .i64 b.ro] 56) := by rw [← hW5]; exact heap_at hm0.symm _
        rw [hW5, hm0]
        have z0 := cell_obj hx5 0 (.int .i64 b.nu) rfl; have z1 := cell_obj hx5 1 (.int .i64 b.zo) rfl; have z2 := cell_obj hx5 2 (.int .i64 b.ro) rfl
        clear x0 x1 x2 hW5 hm0 hx5
        have z0 := FrW.cell z0; have z1 := FrW.cell z1; have z2 := FrW.cell z2; have y0 := FrW.cell (hF5.cell y0 (fun e => e))
        by_cases h1 : b.nu < 1
        · skip
          refine wp_region_fr (by kernel_rfl) (by kernel_rfl) ?_
          repeat (go_big_quiet_step (fail))
          refine wpQuiet_nil ?_
          rintro V ⟨⟨_, hV⟩, rfl⟩
          go_wp2_with fail
          go_ret
          exact ⟨by rw [HNO.out (by omega)]; rfl, HF5.out.trans hV⟩
        by_cases h2 : 4096 < b.nu
        · skip
          refine wp_region_fr (by kernel_rfl) (by kernel_rfl) ?_
          repeat (go_big_quiet_step (fail))
          refine wpQuiet_nil ?_
          rintro V ⟨⟨_, hV⟩, rfl⟩
          go_wp2_with fail
          go_ret
          exact ⟨by rw [HNO.out (by omega)]; rfl, HF5.out.trans hV⟩
        by_cases h3 : b.zo < 0
        · skip
          refine wp_region_fr (by kernel_rfl) (by kernel_rfl) ?_
          repeat (go_big_quiet_step (fail))
          refine wpQuiet_nil ?_
          rintro V ⟨⟨_, hV⟩, rfl⟩
          go_wp2_with fail
          go_ret
          exact ⟨by rw [HNO.out (by omega)]; rfl, HF5.out.trans hV⟩
        by_cases h4 : 15 < b.zo
        · skip
          refine wp_region_fr (by kernel_rfl) (by kernel_rfl) ?_
          repeat (go_big_quiet_step (fail))
          refine wpQuiet_nil ?_
          rintro V ⟨⟨_, hV⟩, rfl⟩
          go_wp2_with fail
          go_ret
          exact ⟨by rw [HNO.out (by omega)]; rfl, HF5.out.trans hV⟩
        by_cases h5 : b.ro < 1
        · skip
          refine wp_region_fr (by kernel_rfl) (by kernel_rfl) ?_
          repeat (go_big_quiet_step (fail))
          refine wpQuiet_nil ?_
          rintro V ⟨⟨_, hV⟩, rfl⟩
          go_wp2_with fail
          go_ret
          exact ⟨by rw [HNO.out (by omega)]; rfl, HF5.out.trans hV⟩
        by_cases h6 : 1099511627776 < b.ro
        · skip
          refine wp_region_fr (by kernel_rfl) (by kernel_rfl) ?_
          repeat (go_big_quiet_step (fail))
          refine wpQuiet_nil ?_
          rintro V ⟨⟨_, hV⟩, rfl⟩
          go_wp2_with fail
          go_ret
          exact ⟨by rw [HNO.out (by omega)]; rfl, HF5.out.trans hV⟩
        by_cases h7 : b.nu ≤ p.nu
        · skip
          refine wp_region_fr (by kernel_rfl) (by kernel_rfl) ?_
          repeat (go_big_quiet_step (fail))
          refine wpQuiet_nil ?_
          rintro V ⟨⟨_, hV⟩, rfl⟩
          go_wp2_with fail
          go_ret
          exact ⟨by rw [HNO.out (by omega)]; rfl, HF5.out.trans hV⟩
        refine wp_region_fr (by kernel_rfl) (by kernel_rfl) ?_
        repeat (go_big_quiet_step (fail))
        refine wpQuiet_nil ?_
        rintro V ⟨⟨_, hV⟩, rfl⟩
        go_wp2_with fail
        go_roundw
        case rel => exact ⟨_, hk1.out, by go_num, by rw [HBO.out, HDR.out, bOkL_yes (by rw [hlast.out]; omega), hnxt.out], HF5.out.trans hV⟩
        case measure => simp [intOf]; omega
    · obtain rfl : k = N := by omega
      have hkI : ¬ (k : Int) < k := by omega
      have hok : Hid (bOkL 0 B = true) := Lib.hid (by rw [hbo, List.drop_of_length_le (by rw [HN.out]; exact Nat.le_refl _)]; rfl)
      clear hbo hfr
      by_cases h1 : 1 ≤ k
      · have h1I : decide ((1 : Int) ≤ k) = true := by simp; omega
        by_cases h2 : k ≤ 64
        · have h2I : decide ((k : Int) ≤ 64) = true := by simp; omega
          have hr : Hid (R = true) := Lib.hid (by rw [hMB.out, hok.out]; simp [h1, h2])
          go_wp2_with fail
          go_ret
          exact ⟨by rw [hr.out]; rfl, HFR.out⟩
        · have h2I : decide ((k : Int) ≤ 64) = false := by simp; omega
          have hr : Hid (R = false) := Lib.hid (by rw [hMB.out, hok.out]; simp [h2])
          go_wp2_with fail
          go_ret
          exact ⟨by rw [hr.out]; rfl, HFR.out⟩
      · have h1I : decide ((1 : Int) ≤ k) = false := by simp; omega
        have hr : Hid (R = false) := Lib.hid (by rw [hMB.out, hok.out]; simp [h1])
        go_wp2_with fail
        go_ret
        exact ⟨by rw [hr.out]; rfl, HFR.out⟩
end Go.Proofs.YtefjdcghdcbojaaGreat

namespace Go.Proofs.YtefjdcghdcbojaaGreat
open Go.RowKit Go.Maps
theorem infoRow27 : (Tryz.prog.info? 75).map (fun i => (i.zero, i.size, i.bytes)) = some (some (.agg #[.int .i64 0, .int .i64 0, .int .i64 0, .slice none 0 0]), 4, 48) := by kernel_rfl
/-- What New leaves. -/
def RnP (w : World) (B : List BI) (e : Ending) (w' : World) : Prop :=
  ∃ g vr, e = .returned (.pointer (some ⟨g, 0, none⟩)) ∧ w.heap.size ≤ g ∧ w'.heap[g]? = some (.cells #[vr] 71) ∧ w'.ownsRow (g + 1) 75 4 vr B.length (flat BV.cs (B.map BI.bv)) ∧ Fr (fun _ => False) w w'
set_option maxRecDepth 100000 in
set_option maxHeartbeats 16000000 in
theorem rNew (w : World) (v : Value) (B : List BI) (h : Sbi w v B) (h64 : B.length ≤ 64) : Calls Tryz.prog 39 #[v] w fun e w' => RnP w B e w' := by
  obtain ⟨i0, hi', hz0, hz1, hz2⟩ := info_parts infoRow27
  obtain ⟨n0, hn0⟩ : ∃ n0, w.heap.size = n0 := ⟨_, rfl⟩
  obtain ⟨a, c, rfl⟩ := h.sl
  have HB := Lib.hid h
  have hlen := h.len
  obtain ⟨N, hN⟩ : ∃ N, B.length = N := ⟨_, rfl⟩
  have HN := Lib.hid hN
  obtain ⟨PP, hPP⟩ : ∃ PP, RnP w B = PP := ⟨_, rfl⟩
  have HPP := Lib.hid hPP
  rw [hPP]
  rw [hN] at hlen h64 ⊢
  have HN64 := Lib.hid h64
  obtain ⟨W0, hW0⟩ : ∃ W0, w.alloc (.cells #[.slice none 0 0] 71) = W0 := ⟨_, rfl⟩
  have hf0 : Fr (fun _ => False) w W0 := by rw [← hW0]; exact (Fr.refl _ w).alloc _
  have hx0 : W0.heap[n0]? = some (.cells #[.slice none 0 0] 71) := by rw [← hW0]; exact heap_at hn0.symm _
  have HF0 := Lib.hid hf0; have HX0 := Lib.hid hx0; have HN0 := Lib.hid hn0
  have HS0 : Hid (W0.heap.size = n0 + 1) := Lib.hid (by rw [← hW0]; simp; omega)
  clear h hN hf0 hx0 hPP
  go_enter Tryz.func39, Tryz.ntmps39
  go_wp2_with fail
  go_loopw [4] (fun vi wr => ∃ (k : Nat) (vr : Value), k ≤ N ∧ vi = .int .i64 k ∧ wr.heap[n0]? = some (.cells #[vr] 71) ∧ wr.ownsRow (n0 + 1) 75 4 vr k (flat BV.cs ((B.take k).map BI.bv)) ∧ Fr (fun _ => False) w wr) (fun vi _ => N - (intOf vi).toNat)
  case atStart => exact ⟨0, .slice none 0 0, Nat.zero_le _, rfl, HX0.out, World.ownsRow_nil _ _ _ _, HF0.out⟩
  case round =>
    obtain ⟨k, vr, hk, rfl, hob, hown, hfr⟩ := hrel
    have HGO := Lib.hid hob; have HOW2 := Lib.hid hown; have HF2 := Lib.hid hfr
    obtain ⟨ra, rc, rfl⟩ := row_sl hown
    by_cases hlt : k < N
    · obtain ⟨b, hb⟩ : ∃ b, B[k]? = some b := ⟨B[k]'(by rw [HN.out]; exact hlt), List.getElem?_eq_getElem _⟩
      obtain ⟨ad, rfl, hok, z0, zs⟩ := (HB.out.fr0 okBiKeeps hfr).at_ hb
      have x0 := z0 (.int .i64 b.nu) rfl
      have x1 := zs 0 (.int .i64 b.zo) rfl
      have x2 := zs 1 (.int .i64 b.ro) rfl
      dsimp only [Nat.zero_add, Nat.reduceAdd] at x0 x1 x2
      have hkI : (k : Int) < N := by omega
      have HBB := Lib.hid hb
      have g0 := cell_obj hob 0 (.slice ra k rc) rfl
      clear hb hok z0 zs hob hown hfr
      go_wp2_with fail
      refine wp_region_eff [(10, true), (11, false), (14, false)] [0, 1, 12, 13] 8 (by kernel_rfl) rfl (by kernel_rfl) (by kernel_rfl) ?_
      apply Exists.intro
      refine ⟨?hh, ?pu, ?ef⟩
      case hh =>
        intro X
        have g0 := FrW.cell (X.fr.cell g0 (fun e => e)); have x0 := FrW.cell (X.fr.cell x0 (fun e => e)); have x1 := FrW.cell (X.fr.cell x1 (fun e => e)); have x2 := FrW.cell (X.fr.cell x2 (fun e => e))
        simp (config := { decide := true }) only [boxedF, efIdx, List.map_cons, List.map_nil, idleU, if_true, if_false, ite_true, ite_false]
        repeat (go_big_quiet_step (fail))
        exact wpQuiet_nil rfl
      case pu =>
        intro i' hi' o ho
        simp only [List.mem_cons, List.not_mem_nil, or_false] at hi'
        rcases hi' with rfl | rfl | rfl | rfl
        all_goals
          cases ho
          apply Exists.intro
          intro w'
          simp [execOp, Act.eval, go_sem]
          try exact rfl
      case ef =>
        simp only [efOps, List.filterMap_cons, List.filterMap_nil, List.getElem?_cons_succ, List.getElem?_cons_zero, Option.map_some]
        clear g0 x0 x1 x2
        intro w3 hw3
        have HW3 := Lib.hid hw3
        clear hw3
        go_wp2_with fail
        refine ⟨(Fr.refl _ _).alloc _, ?_⟩
        intro w4 hw4
        have HW4 := Lib.hid hw4
        have hf24 : Fr (fun _ => False) wr w4 := HW3.out.trans (((Fr.refl (fun _ => False) w3).alloc _).trans hw4)
        have HF24 := Lib.hid hf24
        have hsz4 : n0 + 1 ≤ w4.heap.size := by have h1 := (Array.getElem?_eq_some_iff.1 (hf24.at_ HGO.out (fun e => e))).1; omega
        have HSZ4 := Lib.hid hsz4
        clear hw4 hf24 hsz4
        go_wp2_with (at_builtin; refine wpList_append_src rfl _ _ 69 rfl (n0 + 1) 75 i0 (.agg #[.int .i64 0, .int .i64 0, .int .i64 0, .slice none 0 0]) 48 Tryz.underlying69 hi' hz0 hz1 hz2 rfl (by decide) (.slice ra k rc) k (flat BV.cs ((B.take k).map BI.bv)) rfl (HF24.out.row HOW2.out (fun _ _ e => e)) 1 rfl (rd_obj (cs := [.int .i64 b.nu, .int .i64 b.zo, .int .i64 b.ro, .slice none 0 0]) (HW4.out.at_ (heap_new _ _) (fun e => e)) rfl) (by intro u hu; simp only [List.mem_cons, List.not_mem_nil, or_false] at hu; rcases hu with rfl | rfl | rfl | rfl <;> rfl) (by have := HN64.out; unfold maxLen; omega) (by have := HN64.out; omega) HSZ4.out ?_; intro v5 w5 hown5 hgrow5 hloc5; have HO5 := Lib.hid hown5; have HG5 := Lib.hid (Fr.grown (S := fun c => (Value.slice ra k rc).ownBlock = some c) hgrow5 (fun c hc _ => hc)); obtain ⟨a5, c5, rfl⟩ := row_sl hown5; clear hown5 hgrow5 hloc5)
        intro w6 hw6
        have hlt : ∀ c, (Value.slice ra k rc).ownBlock = some c → n0 + 1 ≤ c ∧ c < wr.heap.size := fun c hc => HOW2.out.lt c hc
        have hgo6 := hw6.at_ (HG5.out.at_ (HF24.out.at_ HGO.out (fun e => e)) (fun e => by have := hlt n0 e; omega)) (fun e => e)
        have gf := obj_frozen hgo6 0
        have g0 := cell_obj hgo6 0 (.slice ra k rc) rfl
        have HO6 := Lib.hid (hw6.row HO5.out (fun _ _ e => e))
        have HGO6 := Lib.hid hgo6
        have HFW : Hid (Fr (fun _ => False) w w6) := Lib.hid (((HF2.out.trans HF24.out).trans' HG5.out (fun c hc e => by have := (hlt c e).1; have := HN0.out; omega)).trans hw6)
        clear hw6 hlt hgo6
        go_wp2_with fail
        have hfs : Fr (fun c => c = n0) w6 (w6.setCell ⟨n0, 0, none⟩ (.slice a5 (k + 1) c5)) := (Fr.refl (fun c => c = n0) w6).setCell (p := ⟨n0, 0, none⟩) (fun _ => rfl) _
        have hgo7 := obj_set HGO6.out 0 (.slice a5 (k + 1) c5)
        have HO7 := Lib.hid (hfs.row HO6.out (fun c hc e => by have := (HO6.out.lt c hc).1; omega))
        have HFS := Lib.hid (HFW.out.trans' hfs (fun c hc e => by have := HN0.out; omega))
        obtain ⟨W7, hW7⟩ : ∃ W, w6.setCell ⟨n0, 0, none⟩ (.slice a5 (k + 1) c5) = W := ⟨_, rfl⟩
        rw [hW7] at hgo7 HO7 HFS ⊢
        have HGO7 := Lib.hid hgo7
        clear g0 gf hfs hgo7 hW7
        intro w8 hw8
        have HW8 := Lib.hid hw8
        clear hw8
        go_wp2_with fail
        go_roundw
        case rel =>
          refine ⟨k + 1, _, by omega, by go_num, HW8.out.at_ HGO7.out (fun e => e), ?_, HFS.out.trans HW8.out⟩
          have h1 := HW8.out.row HO7.out (fun _ _ e => e)
          rw [List.take_add_one, HBB.out]
          show World.ownsRow w8 _ _ _ _ _ (flat BV.cs ((B.take k ++ [b]).map BI.bv))
          rw [List.map_append]
          show World.ownsRow w8 _ _ _ _ _ (flat BV.cs ((B.take k).map BI.bv ++ [b.bv]))
          rw [flat_bv_snoc]
          exact h1
        case measure => simp [intOf]; omega
    · obtain rfl : k = N := by omega
      have hkI : ¬ (k : Int) < k := by omega
      have HR2 : Hid (wr.ownsRow (n0 + 1) 75 4 (.slice ra k rc) k (flat BV.cs (B.map BI.bv))) := Lib.hid (by
        have := HOW2.out
        rw [List.take_of_length_le (by rw [HN.out]; exact Nat.le_refl _)] at this
        exact this)
      clear hob hown hfr
      go_wp2_with fail
      rw [← HPP.out]
      exact ⟨n0, _, rfl, Nat.le_of_eq HN0.out, HGO.out, by rw [HN.out]; exact HR2.out, HF2.out⟩
end Go.Proofs.YtefjdcghdcbojaaGreat

namespace Go.Proofs.YtefjdcghdcbojaaGreat
open Go.RowKit Go.Maps
theorem setF_len {L : Its} {s : Str} {n : Int} : (setF L s n).length = (L.filter fun p => !decide (p.1 = s)).length + (if 0 < n then 1 else 0) := by
  rw [(setF_perm L s n).length_eq, List.length_append]
  split <;> rfl
theorem filt_len {L : Its} {s : Str} (h : ∃ p ∈ L, p.1 = s) : (L.filter fun p => !decide (p.1 = s)).length + 1 ≤ L.length := by
  obtain ⟨p, hp, rfl⟩ := h
  have h1 : (L.filter fun q => !decide (q.1 = p.1)).length < L.length := by
    refine List.length_filter_lt_length_iff_exists.2 ⟨p, hp, by simp⟩
  omega
theorem ofF_has {L : Its} {s : Str} (h : 0 < getI L s) : ∃ p ∈ L, p.1 = s := by
  by_cases hn : ∃ p ∈ L, p.1 = s
  · exact hn
  · exfalso
    have h0 : getI L s = 0 := by
      unfold getI
      have : L.filter (fun p => decide (p.1 = s)) = [] := List.filter_eq_nil_iff.2 (fun p hp => by simp; exact fun e => hn ⟨p, hp, e⟩)
      rw [this]; rfl
    omega
theorem beok_set {b : BE} {s : Str} {m : Int} (h : BEok b) (hg : goodB s = true) (h0 : 0 ≤ m) (hl : m = 0 ∨ (b.its.filter fun p => !decide (p.1 = s)).length + 1 ≤ 16) (ht : sumI b.its - getI b.its s + m ≤ b.ro) : BEok (b.put s m) := by
  have hw := (h.bw s).put hg h0 ht
  refine ⟨h.nu, h.zo, h.ro, ?_, hw.tot⟩
  unfold mayL
  rw [Bool.and_eq_true, decide_eq_true_eq]
  refine ⟨itsOk_of hw.ri (fun p hp => good_lt (hw.it p hp).1) (fun p hp => ⟨(hw.it p hp).1, (hw.it p hp).2.1, mayI_iff.2 ⟨by have := (hw.it p hp).2.1; omega, (hw.it p hp).2.2⟩⟩), ?_⟩
  show (setF b.its s m).length ≤ 16
  rw [setF_len]
  have hf := (h.bw s).fl
  split
  · rcases hl with hl | hl <;> omega
  · omega
theorem kind_room {b : BE} {s : Str} (h : BEok b) (hk : kindE b s ≠ 3) : (b.its.filter fun p => !decide (p.1 = s)).length + 1 ≤ 16 := by
  have hl := h.items.1
  unfold kindE at hk
  split at hk
  · rename_i h1
    rw [(h.bw s).of s] at h1
    have := filt_len (ofF_has h1)
    omega
  · have h2 : b.its.length < 16 := by split at hk <;> (try split at hk) <;> omega
    have := List.length_filter_le (fun p : Str × Int => !decide (p.1 = s)) b.its
    omega
theorem beok_put {b : BE} {s : Str} {k : Int} (h : BEok b) (hg : goodB s = true) (hk : kindE b s ≠ 3) (h0 : 0 < k) (h1 : k ≤ leftE b) : BEok (b.put s (ofF b.its s + k)) := by
  have hw := h.bw s
  rw [hw.left] at h1
  rw [hw.of s]
  have := getI_nn s hw.pos
  exact beok_set h hg (by omega) (.inr (kind_room h hk)) (by omega)
theorem beok_take {b : BE} {s : Str} {k : Int} (h : BEok b) (hg : goodB s = true) (h0 : 0 < k) (h1 : k ≤ ofF b.its s) : BEok (b.put s (ofF b.its s - k)) := by
  have hw := h.bw s
  rw [hw.of s] at h1 ⊢
  have h2 := filt_len (ofF_has (L := b.its) (s := s) (by omega))
  have h3 := h.items.1
  have h4 := hw.tot
  exact beok_set h hg (by omega) (.inr (by omega)) (by omega)
/-- What stays of a bin. -/
def binI (b : BE) : BI := ⟨b.nu, b.zo, b.ro⟩
theorem spF_inv (P Q : BE → Prop) (can : BE → Int) (nE : BE → Int → Int) (s : Str) (hstep : ∀ b k, Q b → P b → 0 < k → k ≤ can b → P (b.put s (nE b k))) :
    ∀ (ord : List Int) (M : List BE) (n : Int) (o : List PV), ord.Nodup → (∀ i ∈ ord, 0 ≤ i ∧ ∃ b, M[i.toNat]? = some b ∧ Q b) → (∀ b ∈ M, P b) →
      (∀ b ∈ (ord.foldl (stepS can nE s) (M, n, o)).1, P b) ∧ (ord.foldl (stepS can nE s) (M, n, o)).1.map binI = M.map binI
  | [], M, n, o, _, _, hM => ⟨hM, rfl⟩
  | i :: r, M, n, o, hn, hi, hM => by
    obtain ⟨h0, b, hb, hq⟩ := hi i List.mem_cons_self
    obtain ⟨hn1, hn2⟩ := List.nodup_cons.1 hn
    rw [List.foldl_cons]
    have hs : stepS can nE s (M, n, o) i = if min n (can b) ≤ 0 then (M, n, o) else (M.set i.toNat (b.put s (nE b (min n (can b)))), n - min n (can b), o ++ [⟨b.nu, s, min n (can b)⟩]) := by
      unfold stepS; dsimp only; rw [hb]
    rw [hs]
    by_cases hk : min n (can b) ≤ 0
    · rw [if_pos hk]
      exact spF_inv P Q can nE s hstep r M n o hn2 (fun j hj => hi j (List.mem_cons_of_mem _ hj)) hM
    · rw [if_neg hk]
      have hbM := List.mem_of_getElem? hb
      have := spF_inv P Q can nE s hstep r (M.set i.toNat (b.put s (nE b (min n (can b))))) (n - min n (can b)) (o ++ [⟨b.nu, s, min n (can b)⟩]) hn2 (fun j hj => by
        obtain ⟨k0, c, hc, hq'⟩ := hi j (List.mem_cons_of_mem _ hj)
        have hne : i.toNat ≠ j.toNat := fun e => by
          have e2 : i = j := by omega
          exact hn1 (e2 ▸ hj)
        refine ⟨k0, c, ?_, hq'⟩
        rw [List.getElem?_set_ne hne]
        exact hc) (fun c hc => by
        obtain ⟨q, hq'⟩ := List.getElem?_of_mem hc
        rcases set_get hq' with ⟨-, rfl⟩ | ⟨-, e2⟩
        · exact hstep b _ hq (hM b hbM) (by omega) (by omega)
        · exact hM c (List.mem_of_getElem? e2))
      refine ⟨this.1, this.2.trans ?_⟩
      rw [List.map_set]
      have e : binI (b.put s (nE b (min n (can b)))) = binI b := rfl
      rw [e]
      apply List.ext_getElem?
      intro q
      rw [List.getElem?_set]
      split
      · rename_i hq'
        subst hq'
        rw [List.getElem?_map, hb]
        simp [(List.getElem?_eq_some_iff.1 hb).1]
      · rfl
theorem ordI_nodup {α : Type} (L : List α) (isF : α → Bool) (cf : α → α → Int) : (ordI L isF cf).Nodup := by
  unfold ordI
  refine (stab_perm _ _).nodup_iff.2 ?_
  unfold idxK
  refine List.pairwise_map.2 (List.Pairwise.imp (fun {a b} hne e => hne (Int.ofNat.inj e)) (List.Pairwise.filter _ List.nodup_range))
theorem ordI_is {α : Type} {L : List α} {isF : α → Bool} {cf : α → α → Int} {x : Int} (h : x ∈ ordI L isF cf) : 0 ≤ x ∧ ∃ b, L[x.toNat]? = some b ∧ isF b = true := by
  obtain ⟨i, b, rfl, -, hb, hi⟩ := idxK_mem ((stab_perm _ _).mem_iff.1 h)
  exact ⟨by omega, b, by simpa using hb, hi⟩
theorem putF_inv {M : List BE} {s : Str} {n : Int} (h : ∀ b ∈ M, BEok b) (hg : goodB s = true) : (∀ b ∈ (putF M s n).1, BEok b) ∧ (putF M s n).1.map binI = M.map binI := by
  unfold putF spF
  refine spF_inv BEok (fun b => kindE b s ≠ 3) _ _ s (fun b k hq hp h0 h1 => beok_put hp hg hq h0 h1) _ M n [] (ordI_nodup _ _ _) (fun i hi => ?_) h
  obtain ⟨h0, b, hb, hf⟩ := ordI_is hi
  exact ⟨h0, b, hb, by simpa using hf⟩
theorem takeF_inv {M : List BE} {s : Str} {n : Int} (h : ∀ b ∈ M, BEok b) (hg : goodB s = true) : (∀ b ∈ (takeF M s n).1, BEok b) ∧ (takeF M s n).1.map binI = M.map binI := by
  unfold takeF spF
  refine spF_inv BEok (fun _ => True) _ _ s (fun b k hq hp h0 h1 => beok_take hp hg h0 h1) _ M n [] (ordI_nodup _ _ _) (fun i hi => ?_) h
  obtain ⟨h0, b, hb, hf⟩ := ordI_is hi
  exact ⟨h0, b, hb, trivial⟩
theorem binI_len {M M' : List BE} (h : M'.map binI = M.map binI) : M'.length = M.length := by have := congrArg List.length h; rwa [List.length_map, List.length_map] at this
end Go.Proofs.YtefjdcghdcbojaaGreat

namespace Go.Proofs.YtefjdcghdcbojaaGreat
open Go.RowKit Go.Maps
/-- A slice, read cell by cell. -/
theorem Sq.rd {α : Type} {k : Nat} {cs : α → Array Value} {ok : World → α → Prop} {w : World} {a : Option Addr} {n c : Nat} {L : List α} (h : Sq k cs ok w (.slice a n c) L) (hcs : ∀ r, (cs r).size = k) (hk : 0 < k) : Rd w k a L.length (flat cs L) := by
  obtain ⟨_, a', c', e, h1⟩ := h
  injection e with e1 _ _
  refine ⟨flat_len1 hcs L, fun hm => ?_⟩
  obtain ⟨p0, hp0⟩ : ∃ p, L[0]? = some p := ⟨L[0], List.getElem?_eq_getElem hm⟩
  obtain ⟨-, ad, ha, -⟩ := h1 0 p0 hp0
  refine ⟨ad, by rw [e1, ha], fun j u hu => ?_⟩
  have hj := (List.getElem?_eq_some_iff.1 hu).1
  rw [flat_len1 hcs] at hj
  have hil : j / k < L.length := (Nat.div_lt_iff_lt_mul hk).2 hj
  have hmk : j % k < k := Nat.mod_lt _ hk
  obtain ⟨p, hp⟩ : ∃ p, L[j / k]? = some p := ⟨L[j / k], List.getElem?_eq_getElem hil⟩
  obtain ⟨-, ad', ha', k0⟩ := h1 (j / k) p hp
  have : ad' = ad := by rw [ha] at ha'; exact (Option.some.inj ha').symm
  subst this
  have hps : (cs p)[j % k]? = some ((cs p)[j % k]'(by rw [hcs]; exact hmk)) := Array.getElem?_eq_getElem _
  have h10 := flat_at hcs hp (j % k) _ hps
  have hjj : j / k * k + j % k = j := by rw [Nat.mul_comm]; exact Nat.div_add_mod j k
  have h11 := k0 (j % k) _ hps
  rw [hjj] at h10 h11
  rw [h10] at hu
  cases hu
  exact h11
/-- What floor gives. -/
def FlP (w : World) (B : List BI) (e : Ending) (w' : World) : Prop :=
  (mayBs B = false ∧ e = .returned (.tuple #[.pointer none, .pointer none, .bool false]) ∧ Fr (fun _ => False) w w') ∨
  (mayBs B = true ∧ ∃ g gr vr wa, e = .returned (.tuple #[.pointer (some ⟨g, 0, none⟩), .pointer (some ⟨gr, 0, none⟩), .bool true]) ∧ FS w wa g (B.map BI.e) ∧ wa.heap.size ≤ gr ∧ Fr (fun _ => False) wa w' ∧ w'.heap[gr]? = some (.cells #[vr] 71) ∧ w'.ownsRow (gr + 1) 75 4 vr B.length (flat BV.cs (B.map BI.bv)))
theorem bOkL_all : ∀ {last : Int} {B : List BI}, bOkL last B = true → ∀ b ∈ B, beokB b.e = true
  | _, [], _, _, h => by cases h
  | last, c :: r, h, b, hb => by
    have h' : (mayBinF c.nu c.zo c.ro && decide (last < c.nu) && bOkL c.nu r) = true := h
    unfold mayBinF at h'
    simp only [Bool.and_eq_true, decide_eq_true_eq] at h'
    obtain ⟨⟨⟨⟨⟨⟨⟨h1, h2⟩, h3⟩, h4⟩, h5⟩, h6⟩, h7⟩, h8⟩ := h'
    rcases List.mem_cons.1 hb with rfl | hb
    · have h9 : sumI ([] : Its) = 0 := rfl
      have h10 : mayL ([] : Its) = true := rfl
      unfold beokB BI.e
      simp [h1, h2, h3, h4, h5, h6, h9, h10]; omega
    · exact bOkL_all h8 b hb
theorem mayBs_ok {B : List BI} (h : mayBs B = true) : (∀ x ∈ B.map BI.e, BEok x) ∧ 0 < B.length ∧ B.length ≤ 64 := by
  unfold mayBs at h
  simp only [Bool.and_eq_true, decide_eq_true_eq] at h
  refine ⟨fun x hx => ?_, by omega, by omega⟩
  obtain ⟨b, hb, rfl⟩ := List.mem_map.1 hx
  exact beok_of (bOkL_all h.2 b hb)
set_option maxRecDepth 100000 in
set_option maxHeartbeats 8000000 in
theorem lFloor (w : World) (v : Value) (B : List BI) (h : Sbi w v B) : Calls Tryz.prog 11 #[v] w fun e w' => FlP w B e w' := by
  obtain ⟨i0, hi', hz0, hz1, hz2⟩ := info_parts infoBi
  obtain ⟨a, c, rfl⟩ := h.sl
  have HB := Lib.hid h
  have hM := Lib.hid (rMay w _ B h)
  obtain ⟨N, hN⟩ : ∃ N, B.length = N := ⟨_, rfl⟩
  have HN := Lib.hid hN
  obtain ⟨PP, hPP⟩ : ∃ PP, FlP w B = PP := ⟨_, rfl⟩
  have HPP := Lib.hid hPP
  rw [hPP]
  clear hPP h
  cases hm : mayBs B with
  | false =>
    have HM := Lib.hid hm
    rw [hm] at hM
    clear hm
    rw [hN] at hM ⊢
    go_enter Tryz.func11, Tryz.ntmps11
    go_wp2_with (go_at_call 12; refine hM.out.mono ?_; rintro e w1 ⟨rfl, hf1⟩; have HF1 := Lib.hid hf1; clear hf1)
    rw [← HPP.out]
    exact .inl ⟨HM.out, rfl, HF1.out⟩
  | true =>
    have HM := Lib.hid hm
    have hok := mayBs_ok hm
    have HOK := Lib.hid hok
    rw [hm] at hM
    have hN64 : N ≤ 64 := by omega
    clear hm hok
    rw [hN] at hM ⊢
    go_enter Tryz.func11, Tryz.ntmps11
    go_wp2_with (first
      | (go_at_call 12; refine hM.out.mono ?_; rintro e w1 ⟨rfl, hf1⟩; have HF1 := Lib.hid hf1; have hrd := ((HB.out.fr0 okBiKeeps hf1).fr0 okBiKeeps ((Fr.refl (fun _ => False) w1).alloc (.cells #[] 56))).rd biSize (by omega); rw [HN.out] at hrd; have HRD := Lib.hid hrd; clear hf1 hrd)
      | (at_builtin; refine wpList_append_src rfl _ _ 34 rfl w1.heap.size 56 i0 (.agg #[.int .i64 0, .int .i64 0, .int .i64 0]) 24 Tryz.underlying34 hi' hz0 hz1 hz2 rfl (by decide) (.slice (some ⟨w1.heap.size, 0, none⟩) 0 0) 0 [] rfl (World.ownsRow_made w1 #[] 0 (Nat.le_refl _) (Nat.zero_le _) rfl) _ rfl HRD.out (by intro u hu; simp only [flat, List.mem_flatMap] at hu; obtain ⟨b, _, hr⟩ := hu; simp only [biC, List.mem_cons, List.not_mem_nil, or_false] at hr; rcases hr with rfl | rfl | rfl <;> rfl) (by unfold maxLen; omega) (by omega) (by simp) ?_; intro v6 w6 hown6 hgrow6 hloc6; have HO6 := Lib.hid hown6; have HG6 := Lib.hid hgrow6; clear hown6 hgrow6 hloc6))
    have hf6 : Fr (fun _ => False) w w6 := (HF1.out.trans ((Fr.refl _ w1).alloc _)).trans' (Fr.grown (S := fun b => w1.heap.size ≤ b) HG6.out (fun r hr _ => by cases hr; exact Nat.le_refl _)) (fun b hb e => by have := HF1.out.size; omega)
    have hS6 : Sbi w6 v6 B := Sq.own biSize (by have := HO6.out; rw [Nat.zero_add, List.nil_append] at this; rw [HN.out]; exact this) (fun b hb => HB.out.okm hb)
    have HF6 := Lib.hid hf6
    clear hf6
    refine (bNew w6 _ B hS6).mono ?_
    rintro e w7 ⟨hf7, ⟨hm, -⟩ | ⟨-, g, TS, L, rfl, hFA, hLm, hTS⟩⟩
    · rw [HM.out] at hm; cases hm
    have HFS : Hid (FS w w7 g (B.map BI.e)) := Lib.hid ⟨⟨TS, L, hFA, hLm, fun b hb => Nat.le_trans HF6.out.size (hTS b hb)⟩, HF6.out.trans hf7, HOK.out.1, by rw [List.length_map]; exact HOK.out.2⟩
    have hRN := Lib.hid (rNew w7 _ B (HB.out.fr0 okBiKeeps (HF6.out.trans hf7)) HOK.out.2.2)
    rw [HN.out] at hRN
    clear hS6 hf7 hFA hLm hTS
    go_wp2_with fail
    refine hRN.out.mono ?_
    rintro e w8 ⟨gr, vr, rfl, hgr, hobj, hrow, hf8⟩
    have HR8 := Lib.hid (show FlP w B (.returned (.tuple #[.pointer (some ⟨g, 0, none⟩), .pointer (some ⟨gr, 0, none⟩), .bool true])) w8 from .inr ⟨HM.out, g, gr, vr, w7, rfl, HFS.out, hgr, hf8, hobj, hrow⟩)
    clear hgr hobj hrow hf8
    go_wp2_with fail
    rw [← HPP.out]
    exact HR8.out
end Go.Proofs.YtefjdcghdcbojaaGreat

