/- lives. -/
import Derived.Test.YtlniekobijcanaaGreatBinsRoutesM27
import Derived.Test.YtlniekobijcanaaGreatBinsRoutesM31
import Derived.Test.YtlniekobijcanaaGreatBinsRoutesM33
import Derived.Test.YtlniekobijcanaaGreatBinsRoutesM14
import Derived.Test.YtlniekobijcanaaGreatBinsRoutesM3
namespace Go.Proofs.YtlniekobijcanaaGreat
open Go.RowKit Go.Maps
def sumE (M : List BE) (s : Str) : Int := M.foldl (fun a b => wrap64 (a + ofF b.its s)) 0
theorem sumE_e (L : List BV) (s : Str) : sumF L s = sumE (L.map BV.e) s := by
  unfold sumF sumE
  rw [List.foldl_map]
  rfl
def leftNE (M : List BE) (n : Int) : Int := match binE M n with | some b => leftE b | none => 0
def inNE (M : List BE) (n : Int) : Its := match binE M n with | some b => b.its | none => []
theorem leftNE_e (L : List BV) (n : Int) : leftN L n = leftNE (L.map BV.e) n := by
  unfold leftN leftNE
  rw [binE_e]
  cases binF L n <;> rfl
theorem inNE_e (L : List BV) (n : Int) : inN L n = inNE (L.map BV.e) n := by
  unfold inN inNE
  rw [binE_e]
  cases binF L n <;> rfl
def beokB (x : BE) : Bool := decide (1 ≤ x.nu) && decide (x.nu ≤ 4096) && decide (0 ≤ x.zo) && decide (x.zo ≤ 15) && decide (1 ≤ x.ro) && decide (x.ro ≤ 1099511627776) && mayL x.its && decide (sumI x.its ≤ x.ro)
theorem beok_of {x : BE} (h : beokB x = true) : BEok x := by
  unfold beokB at h
  simp only [Bool.and_eq_true, decide_eq_true_eq] at h
  obtain ⟨⟨⟨⟨⟨⟨⟨h1, h2⟩, h3⟩, h4⟩, h5⟩, h6⟩, h7⟩, h8⟩ := h
  exact ⟨⟨h1, h2⟩, ⟨h3, h4⟩, ⟨h5, h6⟩, h7, h8⟩
theorem beoks_of {M : List BE} (h : (M.all beokB) = true) : ∀ x ∈ M, BEok x := fun x hx => beok_of (List.all_eq_true.1 h x hx)
def lv0 : List BE := [⟨1, 0, 5, []⟩, ⟨2, 1, 3, []⟩]
def lv1 : List BE := [⟨1, 0, 5, [([97], 2)]⟩, ⟨2, 1, 3, []⟩]
def lv2 : List BE := [⟨1, 0, 5, [([97], 5)]⟩, ⟨2, 1, 3, [([97], 2)]⟩]
def lv3 : List BE := [⟨1, 0, 5, [([97], 4)]⟩, ⟨2, 1, 3, []⟩]
theorem lvP1 : putF lv0 [97] 2 = (lv1, 0, [⟨1, [97], 2⟩]) := by kernel_rfl
theorem lvP2 : putF lv1 [97] 5 = (lv2, 0, [⟨1, [97], 3⟩, ⟨2, [97], 2⟩]) := by kernel_rfl
theorem lvP3 : (putF lv2 [97] 2).2.1 = 1 := by kernel_rfl
theorem lvT : takeF lv2 [97] 3 = (lv3, 0, [⟨2, [97], 2⟩, ⟨1, [97], 1⟩]) := by kernel_rfl
theorem lvU : unpackE (packE lv3) = some lv3 := by kernel_rfl
theorem lvO : sumE lv3 [97] = 4 := by kernel_rfl
theorem lvL : leftNE lv3 1 = 1 := by kernel_rfl
theorem lvW : wayE lv3 [⟨1, [97], 3⟩, ⟨2, [97], 2⟩] = 102 := by kernel_rfl
theorem lvB : mayBs [⟨1, 0, 5⟩, ⟨2, 1, 3⟩] = true := by kernel_rfl
theorem lvM2 : mayF [97] 2 = 0 := by kernel_rfl
theorem lvM5 : mayF [97] 5 = 0 := by kernel_rfl
theorem lvM3 : mayF [97] 3 = 0 := by kernel_rfl
theorem lv0k : ∀ x ∈ lv0, BEok x := beoks_of (by kernel_rfl)
theorem lv1k : ∀ x ∈ lv1, BEok x := beoks_of (by kernel_rfl)
theorem lv2k : ∀ x ∈ lv2, BEok x := beoks_of (by kernel_rfl)
theorem lv3k : ∀ x ∈ lv3, BEok x := beoks_of (by kernel_rfl)
/-- A literal row, as bins that are asked for. -/
theorem sbi_new {w : World} {B : List BI} {n : Nat} (hn : B.length = n) (hm : n ≤ maxLen) (hB : ∀ b ∈ B, okI b.nu ∧ okI b.zo ∧ okI b.ro) : Sbi (w.alloc (.cells (flat biC B).toArray 36)) (.slice (some ⟨w.heap.size, 0, none⟩) n n) B := by
  subst hn
  refine Sq.own biSize (base := 0) ⟨flat_len1 biSize B, .inr ⟨w.heap.size, B.length, (flat biC B).toArray, rfl, Nat.zero_le _, heap_new _ _, Nat.le_refl _, hm, by rw [List.size_toArray, flat_len1 biSize], ?_⟩⟩ hB
  rw [List.take_of_length_le (by rw [flat_len1 biSize]; exact Nat.le_refl _)]
theorem neq_place (w : World) (p q : PV) : (binOp .neq 55 (.agg #[.int .i64 p.b, vS p.g, .int .i64 p.n]) (.agg #[.int .i64 q.b, vS q.g, .int .i64 q.n])).run Tryz.prog w = .ok (.bool (!(decide (p.b = q.b) && (decide (p.g = q.g) && decide (p.n = q.n))))) w := by
  by_cases h1 : p.b = q.b <;> by_cases h2 : p.g = q.g <;> by_cases h3 : p.n = q.n <;> simp [go_sem, h1, h2, h3]
theorem eql_place (w : World) (a n : Int) (s : Str) : (binOp .eql 55 (.agg #[.int .i64 a, vS s, .int .i64 n]) (.agg #[.int .i64 a, vS s, .int .i64 n])).run Tryz.prog w = .ok (.bool true) w := by
  simp [go_sem]
/-- A floor of the law's own, as it stands. -/
structure FS (w W : World) (g : Nat) (M : List BE) : Prop where
  ex : ∃ TS L, FA W g TS L ∧ L.map BV.e = M ∧ ∀ b, TS b → w.heap.size ≤ b
  fr : Fr (fun _ => False) w W
  ok : ∀ x ∈ M, BEok x
  len : 0 < M.length ∧ M.length ≤ 64
section
variable {w W W' : World} {g : Nat} {M : List BE}
theorem FS.keep (h : FS w W g M) (hf : Fr (fun _ => False) W W') : FS w W' g M := by
  obtain ⟨⟨TS, L, h1, h2, h3⟩, h4, h5, h6⟩ := h
  exact ⟨⟨TS, L, h1.fr hf (fun _ _ e => e), h2, h3⟩, h4.trans hf, h5, h6⟩
theorem FS.lt (h : FS w W g M) : w.heap.size ≤ g ∧ g < W.heap.size := by
  obtain ⟨⟨TS, L, h1, h2, h3⟩, h4, h5, h6⟩ := h
  exact ⟨h3 g h1.own, h1.lt g h1.own⟩
theorem map_len {L : List BV} (h : L.map BV.e = M) : L.length = M.length := by rw [← h, List.length_map]
theorem FS.fl (h : FS w W g M) : ∃ L, Fl W g L ∧ L.map BV.e = M ∧ 0 < L.length ∧ L.length ≤ 64 := by
  obtain ⟨⟨TS, L, h1, h2, h3⟩, h4, h5, h6⟩ := h
  exact ⟨L, h1.fl, h2, by rw [map_len h2]; exact h6.1, by rw [map_len h2]; exact h6.2⟩
theorem FS.put {s : Str} {n : Int} {M' : List BE} {r : Int} {out : List PV} (h : FS w W g M) (hm : mayF s n = 0) (hF : putF M s n = (M', r, out)) (hok : ∀ x ∈ M', BEok x) (hlen : M'.length = M.length) : Calls Tryz.prog 19 #[.pointer (some ⟨g, 0, none⟩), vS s, .int .i64 n] W fun e W' =>
    (0 < r ∧ e = .returned (.tuple #[.slice none 0 0, .int .i64 2]) ∧ FS w W' g M ∧ Fr (fun _ => False) W W') ∨
    (r ≤ 0 ∧ ∃ v, e = .returned (.tuple #[v, .int .i64 0]) ∧ Pl W' v out ∧ (∀ b, v.ownBlock = some b → W.heap.size ≤ b) ∧ FS w W' g M' ∧ Fr (fun c => c = g) W W') := by
  have hk := h
  obtain ⟨⟨TS, L, h1, h2, h3⟩, h4, h5, h6⟩ := h
  have hl := map_len h2
  refine (bPut W g TS L s n h1 (by rw [h2]; exact h5) (by omega) (by omega) hm).mono ?_
  intro e W' hP
  rw [h2, hF] at hP
  rcases hP with ⟨p1, p2, p3⟩ | ⟨p1, v, L', TS', p2, p3, p4, p5, p6, p7, p8⟩
  · exact .inl ⟨p1, p2, hk.keep p3, p3⟩
  · have hg := h3 g h1.own
    exact .inr ⟨p1, v, p2, p3, p4, ⟨⟨TS', L', p5, p6, fun b hb => (p8 b hb).elim (h3 b) (fun e => Nat.le_trans h4.size e)⟩, h4.trans' p7 (fun b hb e => by have e : b = g := e; omega), hok, by rw [hlen]; exact h6⟩, p7⟩
theorem FS.take {s : Str} {n : Int} {M' : List BE} {r : Int} {out : List PV} (h : FS w W g M) (hm : mayF s n = 0) (hF : takeF M s n = (M', r, out)) (hok : ∀ x ∈ M', BEok x) (hlen : M'.length = M.length) : Calls Tryz.prog 21 #[.pointer (some ⟨g, 0, none⟩), vS s, .int .i64 n] W fun e W' =>
    (0 < r ∧ e = .returned (.tuple #[.slice none 0 0, .int .i64 51]) ∧ FS w W' g M ∧ Fr (fun _ => False) W W') ∨
    (r ≤ 0 ∧ ∃ v, e = .returned (.tuple #[v, .int .i64 0]) ∧ Pl W' v out ∧ (∀ b, v.ownBlock = some b → W.heap.size ≤ b) ∧ FS w W' g M' ∧ Fr (fun c => c = g) W W') := by
  have hk := h
  obtain ⟨⟨TS, L, h1, h2, h3⟩, h4, h5, h6⟩ := h
  have hl := map_len h2
  refine (bTake W g TS L s n h1 (by rw [h2]; exact h5) (by omega) (by omega) hm).mono ?_
  intro e W' hP
  rw [h2, hF] at hP
  rcases hP with ⟨p1, p2, p3⟩ | ⟨p1, v, L', TS', p2, p3, p4, p5, p6, p7, p8⟩
  · exact .inl ⟨p1, p2, hk.keep p3, p3⟩
  · have hg := h3 g h1.own
    exact .inr ⟨p1, v, p2, p3, p4, ⟨⟨TS', L', p5, p6, fun b hb => (p8 b hb).elim (h3 b) (fun e => Nat.le_trans h4.size e)⟩, h4.trans' p7 (fun b hb e => by have e : b = g := e; omega), hok, by rw [hlen]; exact h6⟩, p7⟩
theorem FS.put_full {s : Str} {n : Int} (h : FS w W g M) (hm : mayF s n = 0) (hF : 0 < (putF M s n).2.1) : Calls Tryz.prog 19 #[.pointer (some ⟨g, 0, none⟩), vS s, .int .i64 n] W fun e W' => e = .returned (.tuple #[.slice none 0 0, .int .i64 2]) ∧ Fr (fun _ => False) W W' := by
  obtain ⟨⟨TS, L, h1, h2, h3⟩, h4, h5, h6⟩ := h
  have hl := map_len h2
  refine (bPut W g TS L s n h1 (by rw [h2]; exact h5) (by omega) (by omega) hm).mono ?_
  intro e W' hP
  rw [h2] at hP
  rcases hP with ⟨p1, p2, p3⟩ | ⟨p1, -⟩
  · exact ⟨p2, p3⟩
  · omega
theorem FS.take_less {s : Str} {n : Int} (h : FS w W g M) (hm : mayF s n = 0) (hF : 0 < (takeF M s n).2.1) : Calls Tryz.prog 21 #[.pointer (some ⟨g, 0, none⟩), vS s, .int .i64 n] W fun e W' => e = .returned (.tuple #[.slice none 0 0, .int .i64 51]) ∧ Fr (fun _ => False) W W' := by
  obtain ⟨⟨TS, L, h1, h2, h3⟩, h4, h5, h6⟩ := h
  have hl := map_len h2
  refine (bTake W g TS L s n h1 (by rw [h2]; exact h5) (by omega) (by omega) hm).mono ?_
  intro e W' hP
  rw [h2] at hP
  rcases hP with ⟨p1, p2, p3⟩ | ⟨p1, -⟩
  · exact ⟨p2, p3⟩
  · omega
theorem FS.of (h : FS w W g M) (s : Str) : Calls Tryz.prog 20 #[.pointer (some ⟨g, 0, none⟩), vS s] W fun e W' => e = .returned (.int .i64 (sumE M s)) ∧ Fr (fun _ => False) W W' := by
  obtain ⟨L, h1, h2, h3, -⟩ := h.fl
  have := bOfAll W g L s h1 h3
  rw [sumE_e, h2] at this
  exact this
theorem FS.left (h : FS w W g M) (n : Int) : Calls Tryz.prog 34 #[.pointer (some ⟨g, 0, none⟩), .int .i64 n] W fun e W' => e = .returned (.int .i64 (leftNE M n)) ∧ Fr (fun _ => False) W W' := by
  obtain ⟨L, h1, h2, h3, -⟩ := h.fl
  have := bLeftN W g L n h1 h3
  rw [leftNE_e, h2] at this
  exact this
theorem FS.way (h : FS w W g M) {v : Value} {l : List PV} (hp : Pl W v l) (hl : l.length ≤ 100000000) : Calls Tryz.prog 16 #[.pointer (some ⟨g, 0, none⟩), v] W fun e W' => e = .returned (.int .i64 (wayE M l)) ∧ Fr (fun _ => False) W W' := by
  obtain ⟨L, h1, h2, h3, -⟩ := h.fl
  have := bWay W g v L l h1 h3 (by rw [h2]; exact h.ok) hp hl
  rw [h2] at this
  exact this
theorem FS.route (h : FS w W g M) {v : Value} {l : List PV} (hp : Pl W v l) (hl : l.length ≤ 100000000) : Calls Tryz.prog 13 #[.pointer (some ⟨g, 0, none⟩), v] W fun e W' => ∃ v', e = .returned v' ∧ Pl W' v' (routeE M l) ∧ (∀ c, v'.ownBlock = some c → W.heap.size ≤ c) ∧ Fr (fun _ => False) W W' := by
  obtain ⟨L, h1, h2, h3, -⟩ := h.fl
  have := bRouteF W g v L l h1 h3 hp (by omega)
  rw [h2] at this
  exact this
theorem FS.pack (h : FS w W g M) : Calls Tryz.prog 25 #[.pointer (some ⟨g, 0, none⟩)] W fun e W' => ∃ v, e = .returned v ∧ Bs W' v (packE M) ∧ (∀ b, v.ownBlock = some b → W.heap.size ≤ b) ∧ Fr (fun _ => False) W W' := by
  obtain ⟨L, h1, h2, h3, h4⟩ := h.fl
  refine (bPack W g L h1 h3 h4 (by rw [h2]; exact h.ok)).mono ?_
  rintro e W' ⟨v, rfl, ho, hf⟩
  rw [h2] at ho
  have := Bs.own ho (packE_byt (by have := h.len; omega) h.ok)
  exact ⟨v, rfl, this.1, fun b hb => this.2 b hb, hf⟩
end
set_option maxRecDepth 100000 in
set_option maxHeartbeats 8000000 in
theorem lLives (w : World) : Calls Tryz.prog 10 #[] w fun e w' => e = .returned (.bool true) ∧ Fr (fun _ => False) w w' := by
  have hS : Sbi (w.alloc (.cells #[.int .i64 1, .int .i64 0, .int .i64 5, .int .i64 2, .int .i64 1, .int .i64 3] 36)) (.slice (some ⟨w.heap.size, 0, none⟩) 2 2) [⟨1, 0, 5⟩, ⟨2, 1, 3⟩] := sbi_new (n := 2) rfl (by decide) (by intro b hb; simp only [List.mem_cons, List.not_mem_nil, or_false] at hb; rcases hb with rfl | rfl <;> (unfold okI; dsimp only; omega))
  have HS := Lib.hid hS
  have hnil := fun (w : World) (f : Fn) (x y : Array Value) => run_eql_func_nil (P := Tryz.prog) w 60 _ _ _ f x y Tryz.underlying60
  clear hS
  go_enter Tryz.func10, Tryz.ntmps10
  go_wp2_with fail
  refine (bNew _ _ _ HS.out).mono ?_
  rintro e w1 ⟨hf1, ⟨hm, -⟩ | ⟨-, g, TS, L, rfl, hFA, hLm, hTS⟩⟩
  · rw [lvB] at hm; cases hm
  have hf1' : Fr (fun _ => False) w w1 := ((Fr.refl _ w).alloc _).trans hf1
  have H0 : Hid (FS w w1 g lv0) := Lib.hid ⟨⟨TS, L, hFA, hLm, fun b hb => by have := hTS b hb; simp at this; omega⟩, hf1', lv0k, by decide⟩
  clear hf1 hf1' hFA hLm hTS HS
  go_wp2_with (go_at_call 30; refine (bBins _ _).mono ?_; rintro e w2 ⟨rfl, rfl⟩)
  have H0 := Lib.hid (H0.out.keep ((Fr.refl _ w1).alloc (.cells #[.pointer (some ⟨g, 0, none⟩)] 25)))
  refine (H0.out.put (s := [97]) (n := 2) lvM2 lvP1 lv1k rfl).mono ?_
  rintro e w2 (⟨h, -⟩ | ⟨-, v1, rfl, hp1, ho1, h1, hf1⟩)
  · omega
  obtain ⟨a1, c1, rfl⟩ := hp1.sl
  have H1 := Lib.hid h1
  clear hp1 ho1 h1 hf1
  dsimp only [List.length_cons, List.length_nil]
  go_wp2_with fail
  refine (H1.out.put (s := [97]) (n := 5) lvM5 lvP2 lv2k rfl).mono ?_
  rintro e w3 (⟨h, -⟩ | ⟨-, v2, rfl, hp2, ho2, h2, hf2⟩)
  · omega
  obtain ⟨a2, c2, rfl⟩ := hp2.sl
  have hg2 := H1.out.lt
  have HP2 := Lib.hid hp2; have H2 := Lib.hid h2
  have HO2 : Hid (∀ b, (Value.slice a2 [PV.mk 1 [97] 3, PV.mk 2 [97] 2].length c2).ownBlock = some b → ¬ (fun c => c = g) b) := Lib.hid (fun b hb e => by have e : b = g := e; have := ho2 b hb; omega)
  clear hp2 ho2 h2 hf2 hg2
  dsimp only [List.length_cons, List.length_nil] at HP2 HO2 ⊢
  go_wp2_with fail
  refine (H2.out.put_full (s := [97]) (n := 2) lvM2 (by rw [lvP3]; decide)).mono ?_
  rintro e w4 ⟨rfl, hf4⟩
  have H3 := Lib.hid (H2.out.keep hf4)
  have HP3 := Lib.hid (HP2.out.fr0 okPvKeeps hf4)
  clear hf4
  go_wp2_with fail
  refine (H3.out.take (s := [97]) (n := 3) lvM3 lvT lv3k rfl).mono ?_
  rintro e w5 (⟨h, -⟩ | ⟨-, v4, rfl, hp4, ho4, h4, hf4⟩)
  · omega
  obtain ⟨a4, c4, rfl⟩ := hp4.sl
  have H4 := Lib.hid h4
  have HP4 := Lib.hid hp4
  have HP2 := Lib.hid (Pl.keep HP3.out hf4 HO2.out)
  clear hp4 ho4 h4 hf4
  dsimp only [List.length_cons, List.length_nil] at HP4 ⊢
  go_wp2_with fail
  refine H4.out.pack.mono ?_
  rintro e w6 ⟨v6, rfl, hb6, -, hf6⟩
  have HB6 := Lib.hid hb6
  have H5 := Lib.hid (H4.out.keep hf6)
  have HP4 := Lib.hid (HP4.out.fr0 okPvKeeps hf6)
  have HP2 := Lib.hid (HP2.out.fr0 okPvKeeps hf6)
  clear hb6 hf6
  go_wp2_with fail
  refine (bUnpack w6 v6 (packE lv3) HB6.out (by decide) (packE_byt (by decide) lv3k)).mono ?_
  rintro e w7 ⟨hf7, hZ⟩
  rw [lvU] at hZ
  obtain ⟨g7, TS7, L7, rfl, -⟩ := hZ
  have H6 := Lib.hid (H5.out.keep hf7)
  have HP4 := Lib.hid (HP4.out.fr0 okPvKeeps hf7)
  have HP2 := Lib.hid (HP2.out.fr0 okPvKeeps hf7)
  clear hf7
  obtain ⟨ad2, rfl, -, y0, ys⟩ := HP2.out.at_ (i := 1) (r := ⟨2, [97], 2⟩) rfl
  have y0 := y0 (.int .i64 2) rfl; have y1 := ys 0 (vS [97]) rfl; have y2 := ys 1 (.int .i64 2) rfl
  obtain ⟨ad4, rfl, -, z0, -⟩ := HP4.out.at_ (i := 0) (r := ⟨2, [97], 2⟩) rfl
  have z0 := z0 (.int .i64 2) rfl
  have heq := fun W => eql_place W 2 2 [97]
  clear ys
  dsimp only [Nat.reduceMul, Nat.zero_add, Nat.reduceAdd] at y0 y1 y2 z0
  have e3 : ad2.add 3 = ⟨ad2.block, ad2.off + 3, none⟩ := by unfold Addr.add; simp
  have e0 : ad4.add 0 = ad4 := by unfold Addr.add; simp
  rw [e3] at y0 y1 y2
  rw [e0] at z0
  clear e3 e0
  dsimp only [vS] at y1 heq
  go_wp2_with fail
  refine (H6.out.of [97]).mono ?_
  rw [lvO]
  rintro e w8 ⟨rfl, hf8⟩
  have H7 := Lib.hid (H6.out.keep hf8)
  have HP2 := Lib.hid (HP2.out.fr0 okPvKeeps hf8)
  clear hf8
  go_wp2_with fail
  refine (H7.out.left 1).mono ?_
  rw [lvL]
  rintro e w9 ⟨rfl, hf9⟩
  have H8 := Lib.hid (H7.out.keep hf9)
  have HP2 := Lib.hid (HP2.out.fr0 okPvKeeps hf9)
  clear hf9
  go_wp2_with fail
  refine (H8.out.way HP2.out (by decide)).mono ?_
  rw [lvW]
  rintro e w10 ⟨rfl, hf10⟩
  have HF10 := Lib.hid (H8.out.fr.trans hf10)
  clear hf10
  go_wp2_with fail
  go_ret
  exact ⟨rfl, HF10.out⟩
end Go.Proofs.YtlniekobijcanaaGreat
