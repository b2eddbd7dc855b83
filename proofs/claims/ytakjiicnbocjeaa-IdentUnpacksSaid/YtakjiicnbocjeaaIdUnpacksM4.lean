/- Texts of this claim, joined: entrepotref09: the document's table; May, Mark; The document's cells (entrepotref01): digits, Num; The document's cells (entrepotref01): Maker; The document's cells (entrepotref01): First: what it reads is what cells.First reads: plainly; The document's cells (entrepotref01): First: the walk; The document's cells (entrepotref01): Taker: Num, Flag; ident.Unpack: the walk; ident: what is packed is what is unpacked, and the other way round: plainly; ident: what is packed is what is unpacked, and the other way round: plainly: tables; append(row, source...) at a step of a region that draws its order. -/
import Derived.Test.YtakjiicnbocjeaaIdUnpacksM3
import Derived.BigQuiet
import Derived.Deep.RegionHeld3
namespace Go.Proofs.Ytakjiicnbocjeaa
open Go.RowKit Go.Maps
def rowc (q : Int × RowV) : List Value := [.int .i64 q.1, .int .u64 q.2.mix, .bool q.2.done, .int .i64 q.2.a.c, .int .i64 q.2.a.n, .int .i64 q.2.a.code, .int .i64 q.2.a.k]
def rowcs (R : Rows) : List Value := R.flatMap rowc
theorem rowc_len (q : Int × RowV) : (rowc q).length = 7 := rfl
theorem rowcs_len (R : Rows) : (rowcs R).length = R.length * 7 := by
  induction R with
  | nil => rfl
  | cons q r ih => simp only [rowcs, List.flatMap_cons, List.length_append, List.length_cons] at *; rw [ih]; simp [rowc]; omega
theorem rowcs_app (R S : Rows) : rowcs (R ++ S) = rowcs R ++ rowcs S := by simp [rowcs]
theorem rowcs_one {u : Value} {R : Rows} (h : u ∈ rowcs R) : u.oneCell' = true := by
  simp only [rowcs, List.mem_flatMap] at h
  obtain ⟨q, _, hq⟩ := h
  simp only [rowc, List.mem_cons, List.not_mem_nil, or_false] at hq
  rcases hq with rfl | rfl | rfl | rfl | rfl | rfl | rfl <;> rfl
theorem rowcs_take (R : Rows) : ∀ k, rowcs (R.take k) = (rowcs R).take (k * 7) := by
  induction R with
  | nil => intro k; simp [rowcs]
  | cons q r ih =>
    intro k
    cases k with
    | zero => simp [rowcs]
    | succ k =>
      have e : rowcs (q :: r) = rowc q ++ rowcs r := by simp [rowcs]
      have e2 : rowcs (q :: r.take k) = rowc q ++ rowcs (r.take k) := by simp [rowcs]
      have h1 : (rowc q).take ((k + 1) * 7) = rowc q := List.take_of_length_le (by rw [rowc_len]; omega)
      rw [List.take_succ_cons, e, e2, ih, List.take_append, h1, rowc_len, show (k + 1) * 7 - 7 = k * 7 by omega]
theorem rowcs_drop (R : Rows) : ∀ k, rowcs (R.drop k) = (rowcs R).drop (k * 7) := by
  induction R with
  | nil => intro k; simp [rowcs]
  | cons q r ih =>
    intro k
    cases k with
    | zero => simp [rowcs]
    | succ k =>
      have e : rowcs (q :: r) = rowc q ++ rowcs r := by simp [rowcs]
      have h1 : (rowc q).drop ((k + 1) * 7) = [] := List.drop_eq_nil_of_le (by rw [rowc_len]; omega)
      rw [List.drop_succ_cons, e, ih, List.drop_append, h1, rowc_len, List.nil_append, show (k + 1) * 7 - 7 = k * 7 by omega]
theorem rowcs_at {R : Rows} {k : Nat} {q : Int × RowV} (h : R[k]? = some q) (j : Nat) (u : Value) (hj : (rowc q)[j]? = some u) : (rowcs R)[k * 7 + j]? = some u := by
  have e := rise_split h
  rw [e, rowcs_app]
  have hl : (rowcs (R.take k)).length = k * 7 := by rw [rowcs_len, List.length_take]; have := (List.getElem?_eq_some_iff.1 h).1; congr 1; omega
  rw [List.getElem?_append_right (by omega), hl, show k * 7 + j - k * 7 = j by omega]
  have : rowcs (q :: R.drop (k + 1)) = rowc q ++ rowcs (R.drop (k + 1)) := by simp [rowcs]
  rw [this, List.getElem?_append_left (List.getElem?_eq_some_iff.1 hj).1]
  exact hj
/-- What lies in the document's table for client c. -/
structure RC (w : World) (cs : Array Value) (TS : Nat → Prop) (A : Tbl) (c : Nat) : Prop where
  ex : ∃ mk v, cs[c]? = some (.int .i64 mk) ∧ (if mk = 0 then 1 else mk) = (cli A c).1 ∧ cs[64 + c]? = some v ∧ w.ownsRow 0 86 7 v (cli A c).2.length (rowcs (cli A c).2) ∧ ∀ b, v.ownBlock = some b → TS b
/-- Object g is the document's table that says A; its rows lie in the blocks of TS. -/
structure RT (w : World) (g : Nat) (TS : Nat → Prop) (A : Tbl) : Prop where
  ex : ∃ cs : Array Value, w.heap[g]? = some (.cells cs 53) ∧ cs.size = 128 ∧ ∀ c : Nat, c < 64 → RC w cs TS A c
  own : TS g
  lt : ∀ b, TS b → b < w.heap.size
theorem RC.fr {S TS : Nat → Prop} {w w' : World} {cs : Array Value} {A : Tbl} {c : Nat} (h : RC w cs TS A c) (hf : Fr S w w') (hS : ∀ b, TS b → ¬ S b) : RC w' cs TS A c := by
  obtain ⟨mk, v, h1, h2, h3, h4, h5⟩ := h
  exact ⟨mk, v, h1, h2, h3, hf.row h4 (fun b hb => hS b (h5 b hb)), h5⟩
theorem RT.fr {S TS : Nat → Prop} {w w' : World} {g : Nat} {A : Tbl} (h : RT w g TS A) (hf : Fr S w w') (hS : ∀ b, TS b → ¬ S b) : RT w' g TS A := by
  obtain ⟨⟨cs, h1, h2, h3⟩, h5, h6⟩ := h
  exact ⟨⟨cs, hf.at_ h1 (hS _ h5), h2, fun c hc => (h3 c hc).fr hf hS⟩, h5, fun b hb => Nat.lt_of_lt_of_le (h6 b hb) hf.size⟩
/-- A client's two cells. -/
theorem RT.at_ {TS : Nat → Prop} {w : World} {g : Nat} {A : Tbl} (h : RT w g TS A) (c : Nat) (hc : c < 64) : ∃ mk a k, w.cell? ⟨g, c, none⟩ = some (.int .i64 mk) ∧ (if mk = 0 then 1 else mk) = (cli A c).1 ∧
    w.cell? ⟨g, 64 + c, none⟩ = some (.slice a (cli A c).2.length k) ∧ w.ownsRow 0 86 7 (.slice a (cli A c).2.length k) (cli A c).2.length (rowcs (cli A c).2) ∧ ∀ b, (Value.slice a (cli A c).2.length k).ownBlock = some b → TS b := by
  obtain ⟨⟨cs, h1, h2, h3⟩, h5, h6⟩ := h
  obtain ⟨mk, v, e1, e2, e3, e4, e5⟩ := h3 c hc
  obtain ⟨a, k, rfl⟩ := row_sl e4
  exact ⟨mk, a, k, cell_obj h1 c _ e1, e2, cell_obj h1 (64 + c) _ e3, e4, e5⟩
theorem RT.frozen {TS : Nat → Prop} {w : World} {g : Nat} {A : Tbl} (h : RT w g TS A) (j : Nat) : w.frozen? ⟨g, j, none⟩ = false := by
  obtain ⟨⟨cs, h1, h2, h3⟩, h5, h6⟩ := h
  exact obj_frozen h1 j
/-- Client c's rows, and its mark, are turned. -/
theorem RT.put {TS TS' : Nat → Prop} {w : World} {g : Nat} {A A' : Tbl} {c : Nat} (h : RT w g TS A) (hc : c < 64) {v : Value} (hA : ∀ d : Nat, d < 64 → d ≠ c → cli A' d = cli A d) (hm : (cli A' c).1 = (cli A c).1)
    (ho : w.ownsRow 0 86 7 v (cli A' c).2.length (rowcs (cli A' c).2)) (hTT : ∀ b, TS b → TS' b) (hv : ∀ b, v.ownBlock = some b → TS' b) (hlt : ∀ b, TS' b → b < w.heap.size) :
    RT (w.setCell ⟨g, 64 + c, none⟩ v) g TS' A' := by
  obtain ⟨⟨cs, h1, h2, h3⟩, h5, h6⟩ := h
  have hF : Fr (fun b => b = g) w (w.setCell ⟨g, 64 + c, none⟩ v) := (Fr.refl (fun b => b = g) w).setCell (p := ⟨g, 64 + c, none⟩) (fun _ => rfl) _
  have hne : ∀ {n : Nat} {u : Value} {xs : List Value}, w.ownsRow 0 86 7 u n xs → ∀ b, u.ownBlock = some b → b ≠ g := by
    intro n u xs hu b hb e
    subst e
    rcases hu.2 with ⟨rfl, _⟩ | ⟨g', c', cur, e1, _, h7, _⟩
    · cases hb
    · subst e1
      cases hb
      rw [h1] at h7; cases h7
  refine ⟨⟨_, obj_set h1 (64 + c) v, by simp [h2], fun d hd => ?_⟩, hTT _ h5, fun b hb => Nat.lt_of_lt_of_le (hlt b hb) hF.size⟩
  obtain ⟨mk, u, e1, e2, e3, e4, e5⟩ := h3 d hd
  by_cases hdc : d = c
  · subst hdc
    refine ⟨mk, v, ?_, by rw [hm]; exact e2, ?_, hF.row ho (fun b hb => hne ho b hb), hv⟩
    · rw [Array.getElem?_setIfInBounds_ne (by omega)]; exact e1
    · rw [Array.getElem?_setIfInBounds_self_of_lt (by omega)]
  · refine ⟨mk, u, ?_, by rw [hA d hd hdc]; exact e2, ?_, by rw [hA d hd hdc]; exact hF.row e4 (fun b hb => hne e4 b hb), fun b hb => hTT _ (e5 b hb)⟩
    · rw [Array.getElem?_setIfInBounds_ne (by omega)]; exact e1
    · rw [Array.getElem?_setIfInBounds_ne (by omega)]; exact e3
/-- Client c's mark is turned. -/
theorem RT.putM {TS : Nat → Prop} {w : World} {g : Nat} {A A' : Tbl} {c : Nat} {mk : Int} (h : RT w g TS A) (hc : c < 64) (hA : ∀ d : Nat, d < 64 → d ≠ c → cli A' d = cli A d) (hm : (cli A' c).1 = if mk = 0 then 1 else mk)
    (hr : (cli A' c).2 = (cli A c).2) : RT (w.setCell ⟨g, c, none⟩ (.int .i64 mk)) g TS A' := by
  obtain ⟨⟨cs, h1, h2, h3⟩, h5, h6⟩ := h
  have hF : Fr (fun b => b = g) w (w.setCell ⟨g, c, none⟩ (.int .i64 mk)) := (Fr.refl (fun b => b = g) w).setCell (p := ⟨g, c, none⟩) (fun _ => rfl) _
  have hne : ∀ {n : Nat} {u : Value} {xs : List Value}, w.ownsRow 0 86 7 u n xs → ∀ b, u.ownBlock = some b → b ≠ g := by
    intro n u xs hu b hb e
    subst e
    rcases hu.2 with ⟨rfl, _⟩ | ⟨g', c', cur, e1, _, h7, _⟩
    · cases hb
    · subst e1
      cases hb
      rw [h1] at h7; cases h7
  refine ⟨⟨_, obj_set h1 c _, by simp [h2], fun d hd => ?_⟩, h5, fun b hb => Nat.lt_of_lt_of_le (h6 b hb) hF.size⟩
  obtain ⟨mk', u, e1, e2, e3, e4, e5⟩ := h3 d hd
  by_cases hdc : d = c
  · subst hdc
    refine ⟨mk, u, ?_, hm.symm, ?_, by rw [hr]; exact hF.row e4 (fun b hb => hne e4 b hb), e5⟩
    · rw [Array.getElem?_setIfInBounds_self_of_lt (by omega)]
    · rw [Array.getElem?_setIfInBounds_ne (by omega)]; exact e3
  · refine ⟨mk', u, ?_, by rw [hA d hd hdc]; exact e2, ?_, by rw [hA d hd hdc]; exact hF.row e4 (fun b hb => hne e4 b hb), e5⟩
    · rw [Array.getElem?_setIfInBounds_ne (by omega)]; exact e1
    · rw [Array.getElem?_setIfInBounds_ne (by omega)]; exact e3
theorem rMay (w : World) (c n : Int) : Calls Try.prog 39 #[.int .i64 c, .int .i64 n] w fun e w' => e = .returned (.bool (isCl c && isNu n)) ∧ w = w' := by
  unfold isCl isNu
  by_cases h1 : 0 ≤ c <;> by_cases h2 : c < 64 <;> by_cases h3 : 1 ≤ n <;> by_cases h4 : n ≤ 4294967296
  all_goals
    simp only [h1, h2, h3, h4, decide_true, decide_false, Bool.and_true, Bool.and_false]
    go_enter Try.func39, Try.ntmps39
    go_wp2
    go_ret
    exact ⟨rfl, rfl⟩
theorem rMark (w : World) (g : Nat) (TS : Nat → Prop) (A : Tbl) (c : Nat) (h : RT w g TS A) (hc : c < 64) :
    Calls Try.prog 40 #[.pointer (some ⟨g, 0, none⟩), .int .i64 c] w fun e w' => e = .returned (.int .i64 (cli A c).1) ∧ w = w' := by
  obtain ⟨mk, a, k, h1, h2, -⟩ := h.at_ c hc
  rw [← h2]
  clear h h2
  by_cases h0 : mk = 0
  · subst h0
    go_enter Try.func40, Try.ntmps40
    go_wp2
    go_ret
    exact ⟨rfl, rfl⟩
  · rw [if_neg h0]
    have hb : (mk == 0) = false := by simpa using h0
    go_enter Try.func40, Try.ntmps40
    go_wp2
    go_ret
    exact ⟨rfl, rfl⟩
end Go.Proofs.Ytakjiicnbocjeaa
namespace Go.Proofs.Ytakjiicnbocjeaa
open Go.RowKit Go.Maps
theorem own_new {w : World} {base : Nat} {t : TypeId} (cs : Array Value) (h : base ≤ w.heap.size) (hc : cs.size ≤ 9223372036854775807) : (w.alloc (.cells cs t)).ownsRow base t 1 (.slice (some ⟨w.heap.size, 0, none⟩) cs.size cs.size) cs.size cs.toList :=
  ⟨by simp, .inr ⟨_, _, _, rfl, h, heap_new _ _, Nat.le_refl _, by unfold maxLen; omega, by simp, by rw [List.take_of_length_le (by simp)]⟩⟩
theorem nSz_of {u k : Nat} (hk : k ≤ 8) (h : u < 256 ^ k) : nSz u ≤ k := by
  have h2 : u < 2 ^ (8 * k) := by rw [Nat.pow_mul]; exact h
  have := Lib.bitLen_le u (8 * k) (by omega) h2
  unfold nSz; omega
theorem nSz_more {u k : Nat} (hu : u < 18446744073709551616) (h : 0 < u / 256 ^ k) : k < nSz u := by
  refine Nat.lt_of_not_le fun hge => ?_
  have h1 := nSz_lt hu
  have h2 : 256 ^ nSz u ≤ 256 ^ k := Nat.pow_le_pow_right (by omega) hge
  rw [Nat.div_eq_of_lt (by omega)] at h
  omega
theorem nSz_done {u k : Nat} (hk : k ≤ nSz u) (hu : u < 18446744073709551616) (h : u / 256 ^ k = 0) : k = nSz u := by
  have hp : 0 < 256 ^ k := Nat.pow_pos (by omega)
  have h1 : u < 256 ^ k := by
    rcases Nat.div_eq_zero_iff.1 h with h | h <;> omega
  have := nSz_of (by have := nSz_le hu; omega) h1
  omega
set_option maxRecDepth 100000 in
set_option maxHeartbeats 1000000 in
theorem rDigits (w : World) (U : Nat) (hU : U < 18446744073709551616) : Calls Try.prog 82 #[.int .u64 U] w fun e w' => ∃ v, e = .returned v ∧ w'.ownsRow w.heap.size 5 1 v (nSz U) (u8s (beB U (nSz U))) ∧ Below w.heap.size w w' := by
  obtain ⟨i0, hi', hz0, hz1, hz2⟩ := info_parts infoU8
  have HU := Lib.hid hU
  clear hU
  go_enter Try.func82, Try.ntmps82
  go_wp2_with fail
  go_loopw [0, 3] (fun u o wr => ∃ k : Nat, k ≤ nSz U ∧ u = .int .u64 ((U / 256 ^ k : Nat) : Int) ∧ wr.ownsRow w.heap.size 5 1 o k (u8s (beB U k)) ∧ Below w.heap.size w wr) (fun u _ _ => (intOf u).toNat)
  case atStart => exact ⟨0, Nat.zero_le _, by simp, ⟨rfl, .inl ⟨rfl, rfl⟩⟩, Below.refl _ _⟩
  case round =>
    obtain ⟨k, hk, rfl, hown, hB⟩ := hrel
    have hk8 := nSz_le HU.out
    obtain ⟨q, hq⟩ : ∃ q, U / 256 ^ k = q := ⟨_, rfl⟩
    have hqU : q ≤ U := by rw [← hq]; exact Nat.div_le_self _ _
    have hqb : (q : Int) < 18446744073709551616 := by have := HU.out; omega
    have hq1 : U / 256 ^ (k + 1) = q / 256 := by rw [Nat.pow_succ, ← Nat.div_div_eq_div_mul, hq]
    have hbe : beB U (k + 1) = ((q % 256 : Nat) : Int) :: beB U k := by simp only [beB]; rw [hq]
    have hsz := hB.size
    rw [hq]
    obtain ⟨ao, co, rfl⟩ := row_sl hown
    have HOW := Lib.hid hown; have HBB := Lib.hid hB; have HQ1 := Lib.hid hq1; have HBE := Lib.hid hbe; have HQ := Lib.hid hq
    clear hown hB hq1 hbe hq
    by_cases h0 : 0 < q
    · have hkm := nSz_more HU.out (by rw [HQ.out]; exact h0)
      go_wp2_with (at_builtin; refine wpList_append_src rfl _ _ 28 rfl w.heap.size 5 i0 (.int .u8 0) 1 Try.underlying28 hi' hz0 hz1 hz2 rfl (by decide) _ 1 [.int .u8 ((q : Int) % 256)] rfl (own_new #[.int .u8 ((q : Int) % 256)] hsz (by simp)) co rfl ((Rd.own HOW.out).fr ((Fr.refl (fun _ => False) wr).alloc _) (fun _ _ h => h)) (by intro u hu; simp [u8s] at hu; obtain ⟨x, _, rfl⟩ := hu; rfl) (by unfold maxLen; omega) (by omega) (by simp; omega) ?_; intro v' w1 hown' hgrow _)
      go_roundw
      case rel =>
        refine ⟨k + 1, hkm, by rw [HQ1.out]; rfl, ?_, (HBB.out.alloc hsz _).grown hgrow (by simp; omega) (fun r hr => by cases hr; exact hsz)⟩
        rw [HBE.out, Nat.add_comm]
        exact hown'
      case measure => simp [intOf]; omega
    · have hkk : k = nSz U := nSz_done hk HU.out (by rw [HQ.out]; omega)
      obtain rfl : q = 0 := by omega
      go_wp2_with fail
      go_ret
      exact ⟨_, rfl, by have := HOW.out; rw [← hkk]; exact this, HBB.out⟩
theorem own_row_bn {w : World} {base : Nat} {v : Value} {x : Int} {bs : List Int} {n : Nat} (h : w.ownsRow base 5 1 v n ([.int .u8 x] ++ u8s bs)) (hb : ∀ y ∈ x :: bs, 0 ≤ y ∧ y < 256) : Bn base w v (x :: bs) := by
  have hl : n = (x :: bs).length := by have := h.1; simp [u8s] at this; simp; omega
  subst hl
  exact Bs.own (by simpa [u8s] using h) hb
set_option maxRecDepth 100000 in
set_option maxHeartbeats 1000000 in
theorem rNum (w : World) (n : Int) (hn : okI n) : Calls Try.prog 77 #[.int .i64 n] w fun e w' => ∃ v, e = .returned v ∧ Bn w.heap.size w' v (numB n) ∧ Below w.heap.size w w' := by
  obtain ⟨i0, hi', hz0, hz1, hz2⟩ := info_parts infoU8
  have HN := Lib.hid hn
  have hmem : Hid (∀ y ∈ numB n, 0 ≤ y ∧ y < 256) := Lib.hid (fun y hy => numB_mem hn hy)
  unfold okI at hn
  by_cases h : 0 ≤ n ∧ n < 128
  · obtain ⟨h0, h1⟩ := h
    have e : numB n = [n] := by unfold numB; rw [if_pos ⟨h0, h1⟩]
    rw [e] at hmem ⊢
    go_enter Try.func77, Try.ntmps77
    go_wp2
    go_ret
    exact ⟨_, rfl, Bs.own (own_new #[.int .u8 n] (Nat.le_refl _) (by simp)) hmem.out, (Below.refl _ _).alloc (Nat.le_refl _) _⟩
  · have hU1 := numU_lt HN.out
    have e := numB_big h
    rw [e] at hmem ⊢
    have hs8 : nSz (numU n) ≤ 8 := nSz_le (by omega)
    have hD := fun w => rDigits w (numU n) (by omega)
    obtain ⟨U, hU⟩ : ∃ U, numU n = U := ⟨_, rfl⟩
    rw [hU] at hU1 hs8 hD hmem ⊢
    obtain ⟨s, hs⟩ : ∃ s, nSz U = s := ⟨_, rfl⟩
    obtain ⟨dg, hdg⟩ : ∃ dg, beB U s = dg := ⟨_, rfl⟩
    have hdl : dg.length = s := by rw [← hdg, beB_len]
    rw [hs] at hs8 hD hmem ⊢
    rw [hdg] at hD hmem ⊢
    have HD := Lib.hid hD
    have HDL := Lib.hid hdl
    clear hD hs hdg hdl e
    rcases (by omega : n < 0 ∨ 128 ≤ n) with hneg | hpos
    · have hH : numH n = 144 := if_pos hneg
      have hx : -1 - n = (U : Int) := by rw [← hU]; unfold numU; rw [if_pos hneg]; omega
      rw [hH] at hmem ⊢
      clear hU hH h
      go_enter Try.func77, Try.ntmps77
      obtain ⟨V, hV⟩ : ∃ V : Nat, IntKind.u64.wrap n = (V : Int) := ⟨(n + 18446744073709551616).toNat, by show n % 18446744073709551616 = _; omega⟩
      have hV2 : V < 18446744073709551616 := by have : n % 18446744073709551616 = (V : Int) := hV; omega
      have HV2 := Lib.hid hV2
      clear hV2
      go_wp2_with fail
      refine (rDigits w V HV2.out).mono ?_
      rintro e w1 ⟨v, rfl, -, hB⟩
      have HB1 := Lib.hid hB
      clear hB hV
      have hxw : IntKind.u64.wrap (U : Int) = (U : Int) := by show (U : Int) % 18446744073709551616 = _; omega
      go_wp2_with fail
      refine (HD.out w1).mono ?_
      rintro e w2 ⟨v2, rfl, hown, hB⟩
      obtain ⟨av, cv, rfl⟩ := row_sl hown
      have hBB := HB1.out.trans (hB.mono HB1.out.size)
      have hsz := hBB.size
      have HOW := Lib.hid (own_base hown HB1.out.size); have HB := Lib.hid hBB
      clear hown hB hBB
      go_wp2_with (at_builtin; refine wpList_append_src rfl _ _ 28 rfl w.heap.size 5 i0 (.int .u8 0) 1 Try.underlying28 hi' hz0 hz1 hz2 rfl (by decide) _ 1 [.int .u8 (144 + (s : Int))] rfl (own_new #[.int .u8 (144 + (s : Int))] hsz (by simp)) cv rfl ((Rd.own HOW.out).fr ((Fr.refl (fun _ => False) w2).alloc _) (fun _ _ h => h)) (by intro u hu; simp [u8s] at hu; obtain ⟨x, _, rfl⟩ := hu; rfl) (by unfold maxLen; omega) (by omega) (by simp; omega) ?_; intro v' w3 hown' hgrow _)
      go_ret
      exact ⟨_, rfl, own_row_bn hown' hmem.out, (HB.out.alloc hsz _).grown hgrow (by simp; omega) (fun r hr => by cases hr; exact hsz)⟩
    · have hH : numH n = 128 := if_neg (by omega)
      have hx : n = (U : Int) := by rw [← hU]; unfold numU; rw [if_neg (by omega)]; omega
      rw [hH] at hmem ⊢
      clear hU hH h HN
      subst hx
      go_enter Try.func77, Try.ntmps77
      go_wp2_with fail
      refine (HD.out w).mono ?_
      rintro e w1 ⟨v, rfl, hown, hB⟩
      obtain ⟨av, cv, rfl⟩ := row_sl hown
      have hsz := hB.size
      have HOW := Lib.hid hown; have HB := Lib.hid hB
      clear hown hB
      go_wp2_with (at_builtin; refine wpList_append_src rfl _ _ 28 rfl w.heap.size 5 i0 (.int .u8 0) 1 Try.underlying28 hi' hz0 hz1 hz2 rfl (by decide) _ 1 [.int .u8 (128 + (s : Int))] rfl (own_new #[.int .u8 (128 + (s : Int))] hsz (by simp)) cv rfl ((Rd.own HOW.out).fr ((Fr.refl (fun _ => False) w1).alloc _) (fun _ _ h => h)) (by intro u hu; simp [u8s] at hu; obtain ⟨x, _, rfl⟩ := hu; rfl) (by unfold maxLen; omega) (by omega) (by simp; omega) ?_; intro v' w2 hown' hgrow _)
      go_ret
      exact ⟨_, rfl, own_row_bn hown' hmem.out, (HB.out.alloc hsz _).grown hgrow (by simp; omega) (fun r hr => by cases hr; exact hsz)⟩
end Go.Proofs.Ytakjiicnbocjeaa
namespace Go.Proofs.Ytakjiicnbocjeaa
open Go.RowKit Go.Maps
/-- The document's maker at g, whose row lies from block B on. -/
structure RK (w : World) (g B : Nat) (s : List Int × Bool) : Prop where
  ex : ∃ v, w.heap[g]? = some (.cells #[v, .bool s.2] 122) ∧ w.ownsRow B 5 1 v s.1.length (u8s s.1) ∧ ∀ b, v.ownBlock = some b → b ≠ g
  low : B ≤ g
  len : (s.1.length : Int) ≤ 262144
theorem RK.fr {S : Nat → Prop} {w w' : World} {g B : Nat} {s : List Int × Bool} (h : RK w g B s) (hf : Fr S w w') (hS : ∀ b, B ≤ b → ¬ S b) : RK w' g B s := by
  obtain ⟨⟨v, h1, h2, h3⟩, h5, h6⟩ := h
  refine ⟨⟨v, hf.at_ h1 (hS _ h5), hf.row h2 (fun b hb => hS _ ?_), h3⟩, h5, h6⟩
  rcases h2.2 with ⟨rfl, _⟩ | ⟨g', c, cur, rfl, hb', _⟩
  · cases hb
  · cases hb; exact hb'
theorem RK.lt {w : World} {g B : Nat} {s : List Int × Bool} (h : RK w g B s) : g < w.heap.size := by
  obtain ⟨⟨v, h1, -⟩, -⟩ := h
  exact (Array.getElem?_eq_some_iff.1 h1).1
theorem RK.new (w : World) : RK (w.alloc (.cells #[.slice none 0 0, .bool false] 122)) w.heap.size w.heap.size ([], false) :=
  ⟨⟨_, heap_new _ _, World.ownsRow_nil _ _ _ _, fun b hb => by cases hb⟩, Nat.le_refl _, by simp⟩
def mkQ (s : List Int × Bool) (c : List Int) : List Int × Bool := (putB s.1 s.2 c, putL s.1 s.2 c)
set_option maxRecDepth 100000 in
set_option maxHeartbeats 1000000 in
theorem rPut (w : World) (g B : Nat) (s : List Int × Bool) (v : Value) (c : List Int) (h : RK w g B s) (hv : Bs w v c) (hc : (c.length : Int) ≤ 1099511627776) (hB : B ≤ w.heap.size) :
    Calls Try.prog 76 #[.pointer (some ⟨g, 0, none⟩), v] w fun e w' => (∃ v, e = .returned v) ∧ RK w' g B (mkQ s c) ∧ Fr (fun b => b = g) w w' := by
  obtain ⟨i0, hi', hz0, hz1, hz2⟩ := info_parts infoU8
  obtain ⟨bs, long⟩ := s
  have HH := Lib.hid h; have HV := Lib.hid hv
  obtain ⟨⟨mv, h1, h2, h3⟩, hlow, hlen⟩ := h
  dsimp only at h1 h2 hlen
  obtain ⟨am, cm, rfl⟩ := row_sl h2
  obtain ⟨_, a, cc, rfl, hcc⟩ := hv
  have hcR : Hid (Rd w 1 a c.length (u8s c)) := Lib.hid ⟨by simp [u8s], fun hp => by
    obtain ⟨x0, hx0⟩ : ∃ x0, c[0]? = some x0 := ⟨c[0], List.getElem?_eq_getElem hp⟩
    obtain ⟨_, _, ad, rfl, _⟩ := hcc 0 x0 hx0
    refine ⟨ad, rfl, fun j u hu => ?_⟩
    simp only [u8s, List.getElem?_map, Option.map_eq_some_iff] at hu
    obtain ⟨x, hx, rfl⟩ := hu
    obtain ⟨_, _, ad', e, hcl⟩ := hcc j x hx
    cases e
    exact hcl⟩
  have b0 := cell_obj h1 0 (.slice am bs.length cm) rfl
  have b1 := cell_obj h1 1 (.bool long) rfl
  have f1 := obj_frozen h1 1
  have f0 := obj_frozen h1 0
  have HO := Lib.hid h1; have HR := Lib.hid h2; have HG := Lib.hid h3
  obtain ⟨n, hn⟩ : ∃ n, bs.length = n := ⟨_, rfl⟩
  obtain ⟨k, hk⟩ : ∃ k, c.length = k := ⟨_, rfl⟩
  have HN := Lib.hid hn; have HK := Lib.hid hk
  rw [hn] at b0 HO HR hlen HG
  rw [hk] at hc hcR ⊢
  have hF1 : Hid (Fr (fun b => b = g) w (w.setCell ⟨g, 1, none⟩ (.bool true))) := Lib.hid ((Fr.refl (fun b => b = g) w).setCell (p := ⟨g, 1, none⟩) (fun _ => rfl) _)
  have hglt : g < w.heap.size := (Array.getElem?_eq_some_iff.1 h1).1
  clear h1 h2 h3 hcc hn hk
  cases long with
  | true =>
    have e : mkQ (bs, true) c = (bs, true) := by simp [mkQ, putB, putL]
    have HE := Lib.hid e
    clear e b0
    go_enter Try.func76, Try.ntmps76
    go_wp2
    refine bodyPost_ret (results_none rfl _ _ _) rfl ?_
    rw [HE.out]
    refine ⟨⟨_, rfl⟩, ⟨⟨_, obj_set HO.out 1 (.bool true), ?_, HG.out⟩, hlow, by show (bs.length : Int) ≤ _; rw [HN.out]; exact hlen⟩, hF1.out⟩
    show World.ownsRow _ _ _ _ _ bs.length _
    rw [HN.out]
    exact hF1.out.row HR.out (fun b hb => HG.out b hb)
  | false =>
    by_cases hov : 262144 < n + k
    · have e : mkQ (bs, false) c = (bs, true) := by simp [mkQ, putB, putL, HN.out, HK.out, hov]
      have HE := Lib.hid e
      clear e
      go_enter Try.func76, Try.ntmps76
      go_wp2
      refine bodyPost_ret (results_none rfl _ _ _) rfl ?_
      rw [HE.out]
      refine ⟨⟨_, rfl⟩, ⟨⟨_, obj_set HO.out 1 (.bool true), ?_, HG.out⟩, hlow, by show (bs.length : Int) ≤ _; rw [HN.out]; exact hlen⟩, hF1.out⟩
      show World.ownsRow _ _ _ _ _ bs.length _
      rw [HN.out]
      exact hF1.out.row HR.out (fun b hb => HG.out b hb)
    · have e : mkQ (bs, false) c = (bs ++ c, false) := by simp [mkQ, putB, putL, HN.out, HK.out, hov]
      have HE := Lib.hid e
      clear e hF1
      go_enter Try.func76, Try.ntmps76
      have hbs1 : ∀ u ∈ u8s bs, u.oneCell' = true := by intro u hu; simp [u8s] at hu; obtain ⟨x, _, rfl⟩ := hu; rfl
      have hcs1 : ∀ u ∈ u8s c, u.oneCell' = true := by intro u hu; simp [u8s] at hu; obtain ⟨x, _, rfl⟩ := hu; rfl
      have HB1 := Lib.hid hbs1; have HC1 := Lib.hid hcs1
      clear hbs1 hcs1
      go_wp2_with (first
        | (at_builtin; refine wpList_append_src rfl (.tmp 23) _ 28 rfl B 5 i0 (.int .u8 0) 1 Try.underlying28 hi' hz0 hz1 hz2 rfl (by decide) (.slice (some ⟨w.heap.size, 0, none⟩) 0 0) 0 [] rfl (own_new #[] hB (by simp)) cm rfl ((Rd.own HR.out).fr ((Fr.refl (fun _ => False) w).alloc (.cells #[] 5)) (fun _ _ h => h)) HB1.out (by unfold maxLen; omega) (by omega) (by simp; omega) ?_; intro v1 w1 hown1 hgrow1 hloc1; simp only [Nat.zero_add, List.nil_append] at hown1; obtain ⟨a1, c1, rfl⟩ := row_sl hown1; have hF1 : Hid (Fr (fun _ => False) w w1) := Lib.hid (((Fr.refl (fun _ => False) w).alloc (.cells #[] 5)).trans' (Fr.grown (S := fun b => b = w.heap.size) hgrow1 (fun r hr _ => by cases hr; rfl)) (fun b hb e => by omega)); have hL1 := Lib.hid hloc1; have hO1 := Lib.hid hown1; have hs1 := hF1.out.size; have hcell1 := hF1.out.at_ HO.out (fun h => h); have fr0 := obj_frozen hcell1 0; have ce0 := cell_obj hcell1 0 (.slice am n cm) rfl; clear hcell1 hown1 hgrow1 hloc1)
        | (at_builtin; refine wpList_append_src rfl (.tmp 28) _ 28 rfl B 5 i0 (.int .u8 0) 1 Try.underlying28 hi' hz0 hz1 hz2 rfl (by decide) (.slice a1 n c1) n (u8s bs) rfl hO1.out cc rfl (hcR.out.fr hF1.out (fun _ _ h => h)) HC1.out (by unfold maxLen; omega) (by omega) (by omega) ?_; intro v2 w2 hown2 hgrow2 hloc2; obtain ⟨a2, c2, rfl⟩ := row_sl hown2; have hF2 : Hid (Fr (fun _ => False) w w2) := Lib.hid (hF1.out.trans' (Fr.grown (S := fun b => w.heap.size ≤ b) hgrow2 (fun r hr _ => by rcases hL1.out with e | e; (rw [e] at hr; cases hr; exact Nat.le_refl _); (rw [e] at hr; cases hr; simp))) (fun b hb e => by omega)); have hL2 : Hid (∀ b, (Value.slice a2 (n + k) c2).ownBlock = some b → w.heap.size ≤ b) := Lib.hid (by intro b hb; rcases hloc2 with e | e; (rw [e] at hb; rcases hL1.out with e | e; (rw [e] at hb; cases hb; exact Nat.le_refl _); (rw [e] at hb; cases hb; simp)); (rw [e] at hb; cases hb; exact hs1)); have hO2 := Lib.hid hown2; have hcell2 := hF2.out.at_ HO.out (fun h => h); have fr0 := obj_frozen hcell2 0; have ce0 := cell_obj hcell2 0 (.slice am n cm) rfl; clear hcell2 hown2 hgrow2 hloc2))
      go_end0
      rw [HE.out]
      have hF3 : Fr (fun b => b = g) w2 (w2.setCell ⟨g, 0, none⟩ (.slice a2 (n + k) c2)) := (Fr.refl (fun b => b = g) w2).setCell (p := ⟨g, 0, none⟩) (fun _ => rfl) _
      have hl : (bs ++ c).length = n + k := by rw [List.length_append, HN.out, HK.out]
      refine ⟨⟨_, rfl⟩, ⟨⟨_, obj_set (hF2.out.at_ HO.out (fun h => h)) 0 (.slice a2 (n + k) c2), ?_, fun b hb => by have := hL2.out b hb; omega⟩, hlow, by show ((bs ++ c).length : Int) ≤ _; rw [hl]; omega⟩, (hF2.out.mono (fun _ _ e => e.elim)).trans hF3⟩
      show World.ownsRow _ _ _ _ _ (bs ++ c).length (u8s (bs ++ c))
      rw [hl, show u8s (bs ++ c) = u8s bs ++ u8s c by simp [u8s]]
      exact hF3.row hO2.out (fun b hb => by have := hL2.out b hb; omega)
set_option maxRecDepth 100000 in
theorem rMNum (w : World) (g B : Nat) (s : List Int × Bool) (n : Int) (h : RK w g B s) (hn : okI n) (hB : B ≤ w.heap.size) :
    Calls Try.prog 64 #[.pointer (some ⟨g, 0, none⟩), .int .i64 n] w fun e w' => (∃ v, e = .returned v) ∧ RK w' g B (mkQ s (numB n)) ∧ Fr (fun b => b = g) w w' := by
  have HH := Lib.hid h; have HN := Lib.hid hn; have hg := h.lt
  clear h hn
  go_enter Try.func64, Try.ntmps64
  go_wp2_with fail
  refine (rNum w n HN.out).mono ?_
  rintro e w1 ⟨v, rfl, hv, hb⟩
  have HV := Lib.hid hv.1; have HB := Lib.hid hb
  have hs := hb.size
  clear hv hb
  go_wp2_with fail
  refine (rPut w1 g B s v (numB n) (HH.out.fr (Fr.below (S := fun _ => False) HB.out) (fun _ _ h => h)) HV.out (by have := (numB_len HN.out).2; omega) (by omega)).mono ?_
  rintro e w2 ⟨⟨v2, rfl⟩, hk, hf⟩
  have HK := Lib.hid hk; have HF := Lib.hid hf
  clear hk hf
  go_wp2_with fail
  go_end0
  exact ⟨⟨_, rfl⟩, HK.out, (Fr.below HB.out).trans' HF.out (fun b _ e => e)⟩
set_option maxRecDepth 100000 in
theorem rMFlag (w : World) (g B : Nat) (s : List Int × Bool) (b : Bool) (h : RK w g B s) (hB : B ≤ w.heap.size) :
    Calls Try.prog 65 #[.pointer (some ⟨g, 0, none⟩), .bool b] w fun e w' => (∃ v, e = .returned v) ∧ RK w' g B (mkQ s [if b then 1 else 0]) ∧ Fr (fun b => b = g) w w' := by
  have h1 := rMNum w g B s 1 h (by unfold okI; omega) hB
  have h0 := rMNum w g B s 0 h (by unfold okI; omega) hB
  have H1 := Lib.hid h1; have H0 := Lib.hid h0
  clear h h1 h0
  cases b
  · go_enter Try.func65, Try.ntmps65
    go_wp2_with fail
    refine H0.out.mono ?_
    rintro e w2 ⟨⟨v2, rfl⟩, hk, hf⟩
    go_wp2_with fail
    go_end0
    exact ⟨⟨_, rfl⟩, hk, hf⟩
  · go_enter Try.func65, Try.ntmps65
    go_wp2_with fail
    refine H1.out.mono ?_
    rintro e w2 ⟨⟨v2, rfl⟩, hk, hf⟩
    go_wp2_with fail
    go_end0
    exact ⟨⟨_, rfl⟩, hk, hf⟩
end Go.Proofs.Ytakjiicnbocjeaa
namespace Go.Proofs.Ytakjiicnbocjeaa
open Go.RowKit Go.Maps
def nU (l : List Int) : Int := l.foldl (fun u c => u * 256 + c) 0
theorem nU_succ {l : List Int} {k : Nat} {x : Int} (h : l[k]? = some x) : nU (l.take (k + 1)) = nU (l.take k) * 256 + x := by
  unfold nU
  rw [List.take_add_one, h, List.foldl_append]; rfl
theorem pow256s (k : Nat) : ((256 ^ (k + 1) : Nat) : Int) = ((256 ^ k : Nat) : Int) * 256 := by rw [Nat.pow_succ]; simp
theorem nU_lt {l : List Int} (hb : ∀ x ∈ l, 0 ≤ x ∧ x < 256) : ∀ k, k ≤ l.length → 0 ≤ nU (l.take k) ∧ nU (l.take k) < ((256 ^ k : Nat) : Int)
  | 0, _ => by simp [nU]
  | k + 1, h => by
    have hk : l[k]? = some l[k] := List.getElem?_eq_getElem (by omega)
    have h1 := nU_lt hb k (by omega)
    have h2 := hb l[k] (List.getElem_mem _)
    rw [nU_succ hk, pow256s]
    omega
theorem dU_nU {l : List Int} (hb : ∀ x ∈ l, 0 ≤ x ∧ x < 256) (h8 : l.length ≤ 8) : ∀ k, k ≤ l.length → dU (l.take k) = nU (l.take k)
  | 0, _ => rfl
  | k + 1, h => by
    have hk : l[k]? = some l[k] := List.getElem?_eq_getElem (by omega)
    have h2 := hb l[k] (List.getElem_mem _)
    have h1 := nU_lt hb k (by omega)
    have hp : 256 ^ k ≤ 256 ^ 7 := Nat.pow_le_pow_right (by omega) (by omega)
    rw [dU_succ hk, nU_succ hk, dU_nU hb h8 k (by omega)]
    obtain ⟨u, hu⟩ : ∃ u : Nat, nU (l.take k) = u := ⟨(nU (l.take k)).toNat, by omega⟩
    obtain ⟨c, hc⟩ : ∃ c : Nat, l[k] = c := ⟨l[k].toNat, by omega⟩
    rw [hu] at h1 ⊢
    rw [hc] at h2 ⊢
    have := or_add u c (by omega) (by omega)
    unfold dStep
    rw [this]
    omega
/-- What the document's First gives. -/
def firstR (bs : List Int) : Int × Nat := match firstB bs with | some p => p | none => (0, 0)
theorem numB_hd0 {n : Int} (h : 0 ≤ n) (hn : n < 9223372036854775808) {x : Int} {l : List Int} (e : numB n = x :: l) : x < 128 ∨ (129 ≤ x ∧ x ≤ 136) := by
  by_cases hs : 0 ≤ n ∧ n < 128
  · unfold numB at e
    rw [if_pos hs] at e
    injection e with e1 _
    left; omega
  · rw [numB_big hs] at e
    injection e with e1 _
    have h8 := nSz_le (u := numU n) (by have := numU_lt (n := n) (by unfold okI; omega); omega)
    have hp : 0 < nSz (numU n) := by
      refine Nat.lt_of_le_of_ne (Nat.zero_le _) (fun e0 => ?_)
      have := nSz_lt (u := numU n) (by have := numU_lt (n := n) (by unfold okI; omega); omega)
      rw [← e0] at this
      unfold numU at this
      split at this <;> omega
    unfold numH at e1
    rw [if_neg (by omega)] at e1
    right; omega
theorem numB_hd1 {n : Int} (h : n < 0) (hn : -9223372036854775808 ≤ n) {x : Int} {l : List Int} (e : numB n = x :: l) : 144 ≤ x ∧ x ≤ 152 := by
  rw [numB_big (by omega)] at e
  injection e with e1 _
  have h8 := nSz_le (u := numU n) (by have := numU_lt (n := n) (by unfold okI; omega); omega)
  unfold numH at e1
  rw [if_pos h] at e1
  omega
/-- The heads that the document knows. -/
theorem firstB_out {hd : Int} {r : List Int} (h : 128 ≤ hd) (hr : ¬ (129 ≤ hd ∧ hd ≤ 136)) (hr2 : ¬ (144 ≤ hd ∧ hd ≤ 152)) : firstB (hd :: r) = none := by
  unfold firstB
  dsimp only
  rw [if_neg (by omega)]
  by_cases h8 : hd = 128
  · subst h8
    rw [if_neg (by simp [dSize])]
    have e : dN 128 (List.take (dSize 128).toNat r) = 0 := by
      rw [show (dSize 128).toNat = 0 by simp [dSize]]
      rw [List.take_zero]
      show wrap64 (bits .xor .u64 ((0 : Nat) : Int) 0) = 0
      rw [xorZero 0 (by omega)]; unfold wrap64; omega
    rw [e, if_neg (by simp [numB])]
  · rw [if_pos]
    left; unfold dSize; split <;> omega
theorem firstB_in {hd : Int} {r : List Int} {S : Nat} (h : (129 ≤ hd ∧ hd ≤ 136) ∨ (144 ≤ hd ∧ hd ≤ 152)) (hS : dSize hd = S) (hb : ∀ x ∈ r, 0 ≤ x ∧ x < 256) (hl : S ≤ r.length) :
    firstB (hd :: r) = if 9223372036854775808 ≤ nU (r.take S) then none else if numB (if 144 ≤ hd then -1 - nU (r.take S) else nU (r.take S)) = hd :: r.take S then some (if 144 ≤ hd then -1 - nU (r.take S) else nU (r.take S), 1 + S) else none := by
  have hS8 : S ≤ 8 := by unfold dSize at hS; split at hS <;> omega
  have hlt : (r.take S).length = S := by rw [List.length_take]; omega
  have hbt : ∀ x ∈ r.take S, 0 ≤ x ∧ x < 256 := fun x hx => hb x (List.mem_of_mem_take hx)
  have hd2 := dU_nU hbt (by omega) S (by omega)
  have hlt2 := nU_lt hbt S (by omega)
  rw [List.take_of_length_le (by omega)] at hd2 hlt2
  have hp : 256 ^ S ≤ 256 ^ 8 := Nat.pow_le_pow_right (by omega) hS8
  obtain ⟨U, hU⟩ : ∃ U : Nat, nU (r.take S) = U := ⟨(nU (r.take S)).toNat, by omega⟩
  rw [hU] at hd2 hlt2 ⊢
  have hUb : U < 18446744073709551616 := by omega
  unfold firstB
  dsimp only
  rw [if_neg (by omega), hS, Int.toNat_natCast, if_neg (by omega)]
  have hdn : dN hd (r.take S) = if 144 ≤ hd then wrap64 ((18446744073709551615 - U : Nat) : Int) else wrap64 (U : Int) := by
    unfold dN
    rw [hd2]
    unfold dTurn
    split
    · rw [xorOnes' _ hUb]
    · rw [xorZero _ hUb]
  rw [hdn]
  by_cases hbig : 9223372036854775808 ≤ (U : Int)
  · rw [if_pos hbig, if_neg]
    intro e
    by_cases hg : 144 ≤ hd
    · rw [if_pos hg] at e
      have h2 := numB_hd0 (by unfold wrap64; omega) (by unfold wrap64; omega) e
      omega
    · rw [if_neg hg] at e
      have h2 := numB_hd1 (by unfold wrap64; omega) (by unfold wrap64; omega) e
      omega
  · rw [if_neg hbig]
    by_cases hg : 144 ≤ hd
    · simp only [if_pos hg]
      rw [show wrap64 ((18446744073709551615 - U : Nat) : Int) = -1 - (U : Int) by unfold wrap64; omega]
    · simp only [if_neg hg]
      rw [show wrap64 (U : Int) = (U : Int) by unfold wrap64; omega]
theorem firstB_short {hd : Int} {r : List Int} {S : Nat} (h : 128 ≤ hd) (hS : dSize hd = S) (hl : r.length < S) : firstB (hd :: r) = none := by
  unfold firstB
  dsimp only
  rw [if_neg (by omega), if_pos]
  right; omega
theorem firstR_none {bs : List Int} (h : firstB bs = none) : firstR bs = (0, 0) := by unfold firstR; rw [h]
theorem firstR_some {bs : List Int} {p : Int × Nat} (h : firstB bs = some p) : firstR bs = p := by unfold firstR; rw [h]
end Go.Proofs.Ytakjiicnbocjeaa
namespace Go.Proofs.Ytakjiicnbocjeaa
open Go.RowKit Go.Maps
def firstW (p : Int × Nat) : Value := .tuple #[.int .i64 p.1, .int .i64 p.2]
set_option maxRecDepth 100000 in
set_option maxHeartbeats 4000000 in
theorem rFirst (w : World) (v : Value) (bs : List Int) (h : Bs w v bs) (hcap : ∀ a n c, v = .slice a n c → n ≤ c) : Calls Try.prog 66 #[v] w fun e w' => e = .returned (firstW (firstR bs)) ∧ Below w.heap.size w w' := by
  obtain ⟨hlen, a, c, rfl, hx⟩ := id h
  cases bs with
  | nil =>
    clear h hx
    rw [firstR_none rfl]
    unfold firstW
    dsimp only
    go_enter Try.func66, Try.ntmps66
    go_wp2
    go_ret2
    exact ⟨rfl, Below.refl _ _⟩
  | cons hd r =>
    obtain ⟨h0, h1, ad, rfl, hc⟩ := hx 0 hd rfl
    have hc0 : w.cell? ad = some (.int .u8 hd) := by have := hc; unfold Addr.add at this; simpa using this
    obtain ⟨n, hn⟩ : ∃ n, r.length = n := ⟨_, rfl⟩
    have HN := Lib.hid hn
    have hl : (hd :: r).length = n + 1 := by rw [List.length_cons, hn]
    have hcn : n + 1 ≤ c := by rw [← hl]; exact hcap _ _ _ (by rw [hl])
    have hbyte : ∀ x ∈ r, 0 ≤ x ∧ x < 256 := fun x hxr => by
      obtain ⟨i, hi, rfl⟩ := List.getElem_of_mem hxr
      obtain ⟨z0, z1, _⟩ := hx (i + 1) r[i] (by simp)
      exact ⟨z0, z1⟩
    have hcell : ∀ (i : Nat) (x : Int), r[i]? = some x → w.cell? (ad.add (1 + i)) = some (.int .u8 x) := fun i x hi => by
      obtain ⟨_, _, ad', e, hc⟩ := hx (i + 1) x (by simpa using hi)
      cases e
      rw [Nat.add_comm]; exact hc
    have HB := Lib.hid hbyte; have HC := Lib.hid hcell; have HH := Lib.hid h
    rw [hl] at hlen ⊢
    have HL := Lib.hid hl
    clear hx h hl hcell hbyte hn hcap hc
    by_cases hs : hd < 128
    · have e : firstR (hd :: r) = (hd, 1) := firstR_some (by simp [firstB, hs])
      rw [e]
      unfold firstW
      dsimp only
      clear e
      go_enter Try.func66, Try.ntmps66
      go_wp2
      go_ret2
      exact ⟨rfl, Below.refl _ _⟩
    · by_cases ho : ¬ (129 ≤ hd ∧ hd ≤ 136) ∧ ¬ (144 ≤ hd ∧ hd ≤ 152)
      · rw [firstR_none (firstB_out (r := r) (by omega) ho.1 ho.2)]
        unfold firstW
        dsimp only
        have ho2 : hd = 128 ∨ (136 < hd ∧ hd < 144) ∨ 152 < hd := by omega
        clear ho
        rcases ho2 with rfl | ⟨h3, h4⟩ | h3
        all_goals
          go_enter Try.func66, Try.ntmps66
          go_wp2
          go_ret2
          exact ⟨rfl, Below.refl _ _⟩
      · have ho2 : (129 ≤ hd ∧ hd ≤ 136) ∨ (144 ≤ hd ∧ hd ≤ 152) := by omega
        clear ho
        obtain ⟨S, hS⟩ : ∃ S : Nat, dSize hd = S := ⟨(dSize hd).toNat, by unfold dSize; split <;> omega⟩
        by_cases hsh : n < S
        · rw [firstR_none (firstB_short (r := r) (by omega) hS (by rw [HN.out]; exact hsh))]
          unfold firstW
          dsimp only
          rcases ho2 with ⟨h3, h4⟩ | ⟨h3, h4⟩
          · have hd1 : (n : Int) + 1 < 1 + (hd - 128) := by unfold dSize at hS; split at hS <;> omega
            clear hS hsh
            go_enter Try.func66, Try.ntmps66
            go_wp2
            go_ret2
            exact ⟨rfl, Below.refl _ _⟩
          · have hd1 : (n : Int) + 1 < 1 + (hd - 144) := by unfold dSize at hS; split at hS <;> omega
            clear hS hsh
            go_enter Try.func66, Try.ntmps66
            go_wp2
            go_ret2
            exact ⟨rfl, Below.refl _ _⟩
        · rcases ho2 with ⟨h3, h4⟩ | ⟨h3, h4⟩
          · have hS1 : hd - 128 = (S : Int) := by unfold dSize at hS; split at hS <;> omega
            have hS8 : S ≤ 8 := by omega
            have hfb := firstB_in (r := r) (.inl ⟨h3, h4⟩) hS HB.out (by rw [HN.out]; omega)
            obtain ⟨U, hU⟩ : ∃ U, nU (r.take S) = U := ⟨_, rfl⟩
            rw [hU] at hfb
            have hcc : ¬ 144 ≤ hd := by omega
            simp only [if_neg hcc] at hfb
            obtain ⟨hU0, hU1⟩ := nU_lt HB.out S (by rw [HN.out]; omega)
            have hp : 256 ^ S ≤ 256 ^ 8 := Nat.pow_le_pow_right (by omega) hS8
            rw [hU] at hU0 hU1
            have hU2 : U < 18446744073709551616 := by omega
            obtain ⟨p, hp2⟩ : ∃ p, firstR (hd :: r) = p := ⟨_, rfl⟩
            rw [hp2]
            have HP := Lib.hid hp2
            have HU := Lib.hid hU; have HFB := Lib.hid hfb
            have hS2 : 1 + (hd - 128) ≤ (n : Int) + 1 := by omega
            have HS1 := Lib.hid hS1
            have hS3 : (hd - 128) ≤ 8 := by omega
            clear hp hU1 hU hfb hS hS1 hp2 hcc
            go_enter Try.func66, Try.ntmps66
            go_wp2_with fail
            go_loopw [6, 7] (fun u i wr => ∃ k : Nat, k ≤ S ∧ u = .int .u64 (nU (r.take k)) ∧ i = .int .i64 k ∧ wr = w) (fun _ i _ => S - (intOf i).toNat)
            case atStart => exact ⟨0, by omega, rfl, rfl, rfl⟩
            case round =>
              obtain ⟨k, hk, rfl, rfl, rfl⟩ := hrel
              by_cases hkm : k < S
              · obtain ⟨x, hx⟩ : ∃ x, r[k]? = some x := ⟨r[k]'(by have := HN.out; omega), List.getElem?_eq_getElem _⟩
                have hcx := HC.out k x hx
                have hcx : wr.cell? ⟨ad.block, ad.off + 1 + k, none⟩ = some (.int .u8 x) := by
                  rw [← hcx]
                  unfold Addr.add
                  rw [if_neg (by omega)]
                  congr 2; omega
                obtain ⟨x0, x1⟩ := HB.out x (List.mem_of_getElem? hx)
                have hkm2 : (k : Int) < hd - 128 := by rw [HS1.out]; omega
                obtain ⟨hu0, hu1⟩ := nU_lt HB.out k (by rw [HN.out]; omega)
                have hp : 256 ^ k ≤ 256 ^ 7 := Nat.pow_le_pow_right (by omega) (by omega)
                have hu2 : nU (r.take k) < 72057594037927936 := by omega
                have HU2 := Lib.hid (nU_succ hx)
                generalize nU (r.take k) = u at *
                clear hx hp hu1
                go_wp2
                go_roundw
                case rel => exact ⟨k + 1, by omega, by rw [HU2.out], by go_num, by trivial⟩
                case measure => simp [intOf]; omega
              · have hke : k = S := by omega
                subst hke
                have hkm2 : ¬ (k : Int) < hd - 128 := by rw [HS1.out]; omega
                rw [HU.out]
                by_cases hbig : 9223372036854775808 ≤ U
                · have hp0 : p = (0, 0) := by rw [← HP.out]; exact firstR_none (by rw [HFB.out, if_pos hbig])
                  go_wp2_with fail
                  go_ret2
                  exact ⟨rfl, Below.refl _ _⟩
                · have hbig2 : U < 9223372036854775808 := by omega
                  have hNK : okI U := by unfold okI; omega
                  have HNK := Lib.hid hNK
                  have hfb := HFB.out
                  rw [if_neg hbig] at hfb
                  have hTK := HH.out.take (k := 1 + k) (by rw [HL.out]; omega)
                  rw [show (hd :: r).take (1 + k) = hd :: r.take k by rw [Nat.add_comm]; rfl] at hTK
                  have HTK := Lib.hid hTK
                  obtain ⟨sa, hsa⟩ : ∃ sa, strOfNums (numB U) = sa := ⟨_, rfl⟩
                  obtain ⟨sb, hsb⟩ : ∃ sb, strOfNums (hd :: r.take k) = sb := ⟨_, rfl⟩
                  have hiff : sa = sb ↔ numB U = hd :: r.take k := by
                    rw [← hsa, ← hsb]
                    exact ⟨strOf_inj (fun b hb => numB_mem HNK.out hb) (fun b hb => by rcases List.mem_cons.1 hb with rfl | hb; exact ⟨h0, h1⟩; exact HB.out b (List.mem_of_mem_take hb)), fun e => by rw [e]⟩
                  have HSA := Lib.hid hsa; have HSB := Lib.hid hsb; have HIFF := Lib.hid hiff; have HFR := Lib.hid hfb
                  clear hNK hfb hTK hsa hsb hiff hbig hkm
                  go_wp2_with fail
                  refine (rNum _ _ HNK.out).mono ?_
                  rintro e w1 ⟨vc, rfl, hvc, hb⟩
                  have hq1 : ∀ q, _ := fun q => (hvc.1.fr ((Fr.refl (fun _ => False) w1).drewN q) (fun _ h => h.elim)).string
                  rw [HSA.out] at hq1
                  have hq2 : ∀ q, _ := fun q => ((HTK.out.fr (Fr.below (S := fun _ => False) hb) (fun _ h => h.elim)).fr ((Fr.refl (fun _ => False) w1).drewN q) (fun _ h => h.elim)).string
                  rw [HSB.out] at hq2
                  have HBB := Lib.hid hb
                  have hvb := hvc.1
                  obtain ⟨_, av, cv, rfl, -⟩ := hvb
                  clear hvc hb
                  have hb1 : 1 + (hd - 128) ≤ (c : Int) := by omega
                  have hb0 : (0 : Int) ≤ 1 + (hd - 128) := by omega
                  have htn : (1 + (hd - 128)).toNat = 1 + k := by have := HS1.out; omega
                  go_wp2_with fail
                  rcases Decidable.em (sa = sb) with heq | hne
                  · subst heq
                    have hp0 : p = (U, 1 + k) := by rw [← HP.out]; exact firstR_some (by rw [HFR.out, if_pos (HIFF.out.1 rfl)])
                    have hval : (1 : Int) + (hd - 128) = ((1 + k : Nat) : Int) := by have := HS1.out; omega
                    have HV := Lib.hid hval
                    have HP0 := Lib.hid hp0
                    clear hval hp0
                    go_quiet (fail)
                    go_wp2
                    go_ret2
                    refine ⟨?_, ⟨HBB.out.os, HBB.out.tape, HBB.out.output, HBB.out.size, HBB.out.block⟩⟩
                    rw [HP0.out]
                    unfold firstW
                    dsimp only
                    rw [← HV.out]
                    rfl
                  · have hbne : (sa.toList == sb.toList) = false := strNe hne
                    have hp0 : p = (0, 0) := by rw [← HP.out]; exact firstR_none (by rw [HFR.out, if_neg (fun e => hne (HIFF.out.2 e))])
                    have HP0 := Lib.hid hp0
                    clear hp0
                    go_quiet (fail)
                    go_wp2
                    go_ret2
                    rw [HP0.out]
                    exact ⟨rfl, ⟨HBB.out.os, HBB.out.tape, HBB.out.output, HBB.out.size, HBB.out.block⟩⟩
          · have hS1 : hd - 144 = (S : Int) := by unfold dSize at hS; split at hS <;> omega
            have hS8 : S ≤ 8 := by omega
            have hfb := firstB_in (r := r) (.inr ⟨h3, h4⟩) hS HB.out (by rw [HN.out]; omega)
            obtain ⟨U, hU⟩ : ∃ U, nU (r.take S) = U := ⟨_, rfl⟩
            rw [hU] at hfb
            have hcc : 144 ≤ hd := h3
            simp only [if_pos hcc] at hfb
            obtain ⟨hU0, hU1⟩ := nU_lt HB.out S (by rw [HN.out]; omega)
            have hp : 256 ^ S ≤ 256 ^ 8 := Nat.pow_le_pow_right (by omega) hS8
            rw [hU] at hU0 hU1
            have hU2 : U < 18446744073709551616 := by omega
            obtain ⟨p, hp2⟩ : ∃ p, firstR (hd :: r) = p := ⟨_, rfl⟩
            rw [hp2]
            have HP := Lib.hid hp2
            have HU := Lib.hid hU; have HFB := Lib.hid hfb
            have hS2 : 1 + (hd - 144) ≤ (n : Int) + 1 := by omega
            have HS1 := Lib.hid hS1
            have hS3 : (hd - 144) ≤ 8 := by omega
            clear hp hU1 hU hfb hS hS1 hp2 hcc
            go_enter Try.func66, Try.ntmps66
            go_wp2_with fail
            go_loopw [6, 7] (fun u i wr => ∃ k : Nat, k ≤ S ∧ u = .int .u64 (nU (r.take k)) ∧ i = .int .i64 k ∧ wr = w) (fun _ i _ => S - (intOf i).toNat)
            case atStart => exact ⟨0, by omega, rfl, rfl, rfl⟩
            case round =>
              obtain ⟨k, hk, rfl, rfl, rfl⟩ := hrel
              by_cases hkm : k < S
              · obtain ⟨x, hx⟩ : ∃ x, r[k]? = some x := ⟨r[k]'(by have := HN.out; omega), List.getElem?_eq_getElem _⟩
                have hcx := HC.out k x hx
                have hcx : wr.cell? ⟨ad.block, ad.off + 1 + k, none⟩ = some (.int .u8 x) := by
                  rw [← hcx]
                  unfold Addr.add
                  rw [if_neg (by omega)]
                  congr 2; omega
                obtain ⟨x0, x1⟩ := HB.out x (List.mem_of_getElem? hx)
                have hkm2 : (k : Int) < hd - 144 := by rw [HS1.out]; omega
                obtain ⟨hu0, hu1⟩ := nU_lt HB.out k (by rw [HN.out]; omega)
                have hp : 256 ^ k ≤ 256 ^ 7 := Nat.pow_le_pow_right (by omega) (by omega)
                have hu2 : nU (r.take k) < 72057594037927936 := by omega
                have HU2 := Lib.hid (nU_succ hx)
                generalize nU (r.take k) = u at *
                clear hx hp hu1
                go_wp2
                go_roundw
                case rel => exact ⟨k + 1, by omega, by rw [HU2.out], by go_num, by trivial⟩
                case measure => simp [intOf]; omega
              · have hke : k = S := by omega
                subst hke
                have hkm2 : ¬ (k : Int) < hd - 144 := by rw [HS1.out]; omega
                rw [HU.out]
                by_cases hbig : 9223372036854775808 ≤ U
                · have hp0 : p = (0, 0) := by rw [← HP.out]; exact firstR_none (by rw [HFB.out, if_pos hbig])
                  go_wp2_with fail
                  go_ret2
                  exact ⟨rfl, Below.refl _ _⟩
                · have hbig2 : U < 9223372036854775808 := by omega
                  have hNK : okI (-1 - U) := by unfold okI; omega
                  have HNK := Lib.hid hNK
                  have hfb := HFB.out
                  rw [if_neg hbig] at hfb
                  have hTK := HH.out.take (k := 1 + k) (by rw [HL.out]; omega)
                  rw [show (hd :: r).take (1 + k) = hd :: r.take k by rw [Nat.add_comm]; rfl] at hTK
                  have HTK := Lib.hid hTK
                  obtain ⟨sa, hsa⟩ : ∃ sa, strOfNums (numB (-1 - U)) = sa := ⟨_, rfl⟩
                  obtain ⟨sb, hsb⟩ : ∃ sb, strOfNums (hd :: r.take k) = sb := ⟨_, rfl⟩
                  have hiff : sa = sb ↔ numB (-1 - U) = hd :: r.take k := by
                    rw [← hsa, ← hsb]
                    exact ⟨strOf_inj (fun b hb => numB_mem HNK.out hb) (fun b hb => by rcases List.mem_cons.1 hb with rfl | hb; exact ⟨h0, h1⟩; exact HB.out b (List.mem_of_mem_take hb)), fun e => by rw [e]⟩
                  have HSA := Lib.hid hsa; have HSB := Lib.hid hsb; have HIFF := Lib.hid hiff; have HFR := Lib.hid hfb
                  clear hNK hfb hTK hsa hsb hiff hbig hkm
                  go_wp2_with fail
                  refine (rNum _ _ HNK.out).mono ?_
                  rintro e w1 ⟨vc, rfl, hvc, hb⟩
                  have hq1 : ∀ q, _ := fun q => (hvc.1.fr ((Fr.refl (fun _ => False) w1).drewN q) (fun _ h => h.elim)).string
                  rw [HSA.out] at hq1
                  have hq2 : ∀ q, _ := fun q => ((HTK.out.fr (Fr.below (S := fun _ => False) hb) (fun _ h => h.elim)).fr ((Fr.refl (fun _ => False) w1).drewN q) (fun _ h => h.elim)).string
                  rw [HSB.out] at hq2
                  have HBB := Lib.hid hb
                  have hvb := hvc.1
                  obtain ⟨_, av, cv, rfl, -⟩ := hvb
                  clear hvc hb
                  have hb1 : 1 + (hd - 144) ≤ (c : Int) := by omega
                  have hb0 : (0 : Int) ≤ 1 + (hd - 144) := by omega
                  have htn : (1 + (hd - 144)).toNat = 1 + k := by have := HS1.out; omega
                  go_wp2_with fail
                  rcases Decidable.em (sa = sb) with heq | hne
                  · subst heq
                    have hp0 : p = ((-1 - U), 1 + k) := by rw [← HP.out]; exact firstR_some (by rw [HFR.out, if_pos (HIFF.out.1 rfl)])
                    have hval : (1 : Int) + (hd - 144) = ((1 + k : Nat) : Int) := by have := HS1.out; omega
                    have HV := Lib.hid hval
                    have HP0 := Lib.hid hp0
                    clear hval hp0
                    go_quiet (fail)
                    go_wp2
                    go_ret2
                    refine ⟨?_, ⟨HBB.out.os, HBB.out.tape, HBB.out.output, HBB.out.size, HBB.out.block⟩⟩
                    rw [HP0.out]
                    unfold firstW
                    dsimp only
                    rw [← HV.out]
                    rfl
                  · have hbne : (sa.toList == sb.toList) = false := strNe hne
                    have hp0 : p = (0, 0) := by rw [← HP.out]; exact firstR_none (by rw [HFR.out, if_neg (fun e => hne (HIFF.out.2 e))])
                    have HP0 := Lib.hid hp0
                    clear hp0
                    go_quiet (fail)
                    go_wp2
                    go_ret2
                    rw [HP0.out]
                    exact ⟨rfl, ⟨HBB.out.os, HBB.out.tape, HBB.out.output, HBB.out.size, HBB.out.block⟩⟩
end Go.Proofs.Ytakjiicnbocjeaa
namespace Go.Proofs.Ytakjiicnbocjeaa
open Go.RowKit Go.Maps
/-- The document's taker: its bytes lie in a block of K, which nobody changes. -/
structure TR (w : World) (g : Nat) (K : Nat → Prop) (bs : List Int) (bad : Bool) : Prop where
  ex : ∃ v, w.heap[g]? = some (.cells #[v, .bool bad] 96) ∧ Bs w v bs ∧ (∀ a n c, v = .slice a n c → n ≤ c) ∧ ∀ b, v.ownBlock = some b → K b ∧ b ≠ g
theorem TR.lt {w : World} {g : Nat} {K : Nat → Prop} {bs : List Int} {bad : Bool} (h : TR w g K bs bad) : g < w.heap.size := by
  obtain ⟨v, h1, _⟩ := h
  exact (Array.getElem?_eq_some_iff.1 h1).1
theorem TR.fr {S K : Nat → Prop} {w w' : World} {g : Nat} {bs : List Int} {bad : Bool} (h : TR w g K bs bad) (hf : Fr S w w') (hg : ¬ S g) (hS : ∀ b, K b → ¬ S b) : TR w' g K bs bad := by
  obtain ⟨v, h1, h2, h3, h4⟩ := h
  exact ⟨v, hf.at_ h1 hg, h2.keep hf (fun b hb => hS _ (h4 b hb).1), h3, h4⟩
set_option maxRecDepth 100000 in
set_option maxHeartbeats 1000000 in
theorem rTNum (w : World) (g : Nat) (K : Nat → Prop) (bs : List Int) (bad : Bool) (least most : Int) (h : TR w g K bs bad) :
    Calls Try.prog 47 #[.pointer (some ⟨g, 0, none⟩), .int .i64 least, .int .i64 most] w fun e w' => e = .returned (.int .i64 (numT bs bad least most).1) ∧ TR w' g K (numT bs bad least most).2.1 (numT bs bad least most).2.2 ∧ Fr (fun b => b = g) w w' := by
  have HT := Lib.hid h
  obtain ⟨v, h1, h2, h3, h4⟩ := h
  obtain ⟨_, a, c, rfl, _⟩ := id h2
  have b0 := cell_obj h1 0 (.slice a bs.length c) rfl
  have b1 := cell_obj h1 1 (.bool bad) rfl
  have H1 := Lib.hid h1; have H2 := Lib.hid h2; have H3 := Lib.hid h3; have H4 := Lib.hid h4
  have hFi := Lib.hid (rFirst w _ bs h2 h3)
  clear h1 h2 h3 h4
  cases bad with
  | true =>
    clear b0
    unfold numT
    go_enter Try.func47, Try.ntmps47
    go_wp2
    go_ret
    exact ⟨rfl, HT.out, Fr.refl _ _⟩
  | false =>
    obtain ⟨o, ho⟩ : ∃ o, firstB bs = o := ⟨_, rfl⟩
    have HO := Lib.hid ho
    clear ho
    have hfault : ∀ w2, Fr (fun _ => False) w w2 → TR (w2.setCell ⟨g, 1, none⟩ (.bool true)) g K bs true ∧ Fr (fun b => b = g) w (w2.setCell ⟨g, 1, none⟩ (.bool true)) := fun w2 hF2 => by
      have hF : Fr (fun b => b = g) w2 (w2.setCell ⟨g, 1, none⟩ (.bool true)) := (Fr.refl (fun b => b = g) w2).setCell (p := ⟨g, 1, none⟩) (fun _ => rfl) _
      exact ⟨⟨_, obj_set (hF2.at_ H1.out (fun h => h)) 1 (.bool true), (H2.out.fr hF2 (fun _ h => h.elim)).keep hF (fun b hb => (H4.out b hb).2), H3.out, H4.out⟩, (hF2.mono (fun _ _ h => h.elim)).trans' hF (fun b _ e => e)⟩
    have HFAULT := Lib.hid hfault
    clear hfault
    cases o with
    | none =>
      have e : numT bs false least most = (0, bs, true) := by simp [numT, HO.out]
      rw [e]
      have hfi := hFi.out
      rw [firstR_none HO.out] at hfi
      have HFI := Lib.hid hfi
      clear e hfi hFi
      go_enter Try.func47, Try.ntmps47
      go_wp2_with fail
      refine HFI.out.mono ?_
      rintro e w2 ⟨rfl, hB⟩
      unfold firstW
      dsimp only
      have hG2 := (Fr.below (S := fun _ => False) hB).at_ H1.out (fun h => h)
      have f1 := obj_frozen hG2 1
      have c1 := cell_obj hG2 1 (.bool false) rfl
      have HF2 := Lib.hid (Fr.below (S := fun _ => False) hB)
      clear hB hG2 b0 b1
      go_wp2_with fail
      go_ret
      exact ⟨rfl, HFAULT.out _ HF2.out⟩
    | some p =>
      obtain ⟨n, k⟩ := p
      obtain ⟨hk1, hk2⟩ := firstB_le HO.out
      have hfi := hFi.out
      rw [firstR_some HO.out] at hfi
      have HFI := Lib.hid hfi
      clear hfi hFi
      by_cases hbnd : n < least ∨ most < n
      · have e : numT bs false least most = (0, bs, true) := by simp [numT, HO.out, hbnd]
        rw [e]
        clear e hk2
        have hk0 : ((k : Int) == 0) = false := by simp; omega
        rcases (by omega : n < least ∨ least ≤ n ∧ most < n) with hlo | ⟨hlo, hhi⟩
        all_goals
          clear hbnd
          go_enter Try.func47, Try.ntmps47
          go_wp2_with fail
          refine HFI.out.mono ?_
          rintro e w2 ⟨rfl, hB⟩
          unfold firstW
          dsimp only
          have hG2 := (Fr.below (S := fun _ => False) hB).at_ H1.out (fun h => h)
          have f1 := obj_frozen hG2 1
          have c1 := cell_obj hG2 1 (.bool false) rfl
          have HF2 := Lib.hid (Fr.below (S := fun _ => False) hB)
          clear hB hG2 b0 b1
          go_wp2_with fail
          go_ret
          exact ⟨rfl, HFAULT.out _ HF2.out⟩
      · have e : numT bs false least most = (n, bs.drop k, false) := by simp only [numT, HO.out, hbnd]; simp
        rw [e]
        have hk0 : ((k : Int) == 0) = false := by simp; omega
        have hlo : least ≤ n := by omega
        have hhi : n ≤ most := by omega
        clear e hbnd
        have hcap := H3.out _ _ _ rfl
        obtain ⟨ln, hln⟩ : ∃ ln, bs.length = ln := ⟨_, rfl⟩
        have HLN := Lib.hid hln
        rw [hln] at hk2 hcap b0 HFI
        clear hln
        go_enter Try.func47, Try.ntmps47
        go_wp2_with fail
        refine HFI.out.mono ?_
        rintro e w2 ⟨rfl, hB⟩
        unfold firstW
        dsimp only
        have hF2 := Fr.below (S := fun _ => False) hB
        have hG2 := hF2.at_ H1.out (fun h => h)
        rw [HLN.out] at hG2
        have c0 := cell_obj hG2 0 (.slice a ln c) rfl
        have f0 := obj_frozen hG2 0
        have HG2 := Lib.hid hG2; have HF2 := Lib.hid hF2
        clear hB hF2 hG2 b0 b1
        have hpost : ∀ v' : Value, Bs w2 v' (bs.drop k) → (∀ a n c, v' = .slice a n c → n ≤ c) → (∀ b, v'.ownBlock = some b → (Value.slice a ln c).ownBlock = some b) →
            TR (w2.setCell ⟨g, 0, none⟩ v') g K (bs.drop k) false ∧ Fr (fun b => b = g) w (w2.setCell ⟨g, 0, none⟩ v') := fun v' hb hc ho => by
          have hF : Fr (fun b => b = g) w2 (w2.setCell ⟨g, 0, none⟩ v') := (Fr.refl (fun b => b = g) w2).setCell (p := ⟨g, 0, none⟩) (fun _ => rfl) _
          have h4 := H4.out
          rw [HLN.out] at h4
          exact ⟨⟨v', obj_set HG2.out 0 v', hb.keep hF (fun b e => (h4 b (ho b e)).2), hc, fun b e => h4 b (ho b e)⟩, (HF2.out.mono (fun _ _ h => h.elim)).trans' hF (fun b _ e => e)⟩
        have HPOST := Lib.hid hpost
        have hb2 : Bs w2 (.slice a ln c) bs := by have := H2.out.fr HF2.out (fun _ h => h.elim); rw [HLN.out] at this; exact this
        have HB2 := Lib.hid hb2
        clear hpost hb2
        go_wp2_with fail
        · have hck : c = k := by assumption
          have hlk : ln = k := by omega
          go_ret
          refine ⟨rfl, HPOST.out _ ?_ ?_ ?_⟩
          · have e0 : bs.drop k = [] := List.drop_eq_nil_of_le (by rw [HLN.out]; omega)
            rw [e0, show ln - k = 0 by omega]
            exact Bs.none' _ _ _
          · rintro a' n' c' e
            injection e with _ e2 e3
            omega
          · intro b e
            cases a with
            | none => cases e
            | some ad => exact e
        · go_ret
          refine ⟨rfl, HPOST.out _ (HB2.out.drop HLN.out hk2) ?_ ?_⟩
          · rintro a' n' c' e
            injection e with _ e2 e3
            omega
          · intro b e
            cases a with
            | none => cases e
            | some ad =>
              have hb : (ad.add k).block = ad.block := by unfold Addr.add; split <;> rfl
              simp only [Option.map, Value.ownBlock, hb] at e ⊢
              exact e
theorem rTk (w : World) (g : Nat) (K : Nat → Prop) (t : Tst) (a b : Int) (h : TR w g K t.1 t.2) :
    Calls Try.prog 47 #[.pointer (some ⟨g, 0, none⟩), .int .i64 a, .int .i64 b] w fun e w' => e = .returned (.int .i64 (tk t a b).1) ∧ TR w' g K (tk t a b).2.1 (tk t a b).2.2 ∧ Fr (fun b => b = g) w w' := rTNum w g K t.1 t.2 a b h
set_option maxRecDepth 100000 in
theorem rTkF (w : World) (g : Nat) (K : Nat → Prop) (t : Tst) (h : TR w g K t.1 t.2) :
    Calls Try.prog 48 #[.pointer (some ⟨g, 0, none⟩)] w fun e w' => e = .returned (.bool ((tk t 0 1).1 == 1)) ∧ TR w' g K (tk t 0 1).2.1 (tk t 0 1).2.2 ∧ Fr (fun b => b = g) w w' := by
  have H := Lib.hid (rTk w g K t 0 1 h)
  clear h
  obtain ⟨n, hn⟩ : ∃ n, (tk t 0 1).1 = n := ⟨_, rfl⟩
  rw [hn] at H ⊢
  clear hn
  go_enter Try.func48, Try.ntmps48
  go_wp2_with fail
  refine H.out.mono ?_
  rintro e w1 ⟨rfl, hT, hF⟩
  go_wp2_with fail
  go_ret
  exact ⟨rfl, hT, hF⟩
end Go.Proofs.Ytakjiicnbocjeaa
namespace Go.Proofs.Ytakjiicnbocjeaa
open Go.RowKit Go.Maps
/-- What the inner loop gives: k rows more, behind number before. -/
def rowsT : Nat → Tst → Int → Int → Rows → Option (Rows × Tst)
  | 0, t, _, _, acc => some (acc, t)
  | k + 1, t, c, before, acc => if (readT t c).1.1 ≤ before then none else rowsT k (readT t c).2 c (readT t c).1.1 (putS ktI.lt acc (readT t c).1.1 (readT t c).1.2)
def cliT : Nat → Tst → Int → Tbl → Option (Tbl × Tst)
  | 0, t, _, A => some (A, t)
  | k + 1, t, last, A =>
    let c := tk t 0 63
    let m := tk c.2 1 4294967297
    let n := tk m.2 0 128
    if c.1 ≤ last ∨ (m.1 ≤ 1 ∧ n.1 = 0) then none else
    match rowsT n.1.toNat n.2 c.1 (m.1 - 1) [] with
    | none => none
    | some R => cliT k R.2 c.1 (putS ktI.lt A c.1 (m.1, R.1))
/-- What any bytes are as a table. -/
def unpT (bs : List Int) : Option Tbl :=
  match cliT (tk (bs, false) 0 64).1.toNat (tk (bs, false) 0 64).2 (-1) [] with
  | none => none
  | some R => if doneT R.2.1 R.2.2 = 0 then some R.1 else none
structure UpI (w0 w : World) (gk : Nat) (TK0 : Nat → Prop) (gt gm : Nat) (l : List (Int × Cl)) (t : Tst) : Prop where
  tk : TK w gk TK0 t.1 t.2
  tab : Tab w gt gm l
  nt : ¬ TK0 gt ∧ ¬ TK0 gm ∧ ∀ p ∈ l, ¬ TK0 p.2.b
  new : w0.heap.size ≤ gt ∧ w0.heap.size ≤ gm ∧ (∀ p ∈ l, w0.heap.size ≤ p.2.b) ∧ ∀ b, TK0 b → w0.heap.size ≤ b
  fr : Fr (fun b => w0.heap.size ≤ b) w0 w
section
variable {w0 w w' : World} {gk gt gm : Nat} {TK0 : Nat → Prop} {l : List (Int × Cl)} {t t' : Tst}
theorem UpI.keep (h : UpI w0 w gk TK0 gt gm l t) (hf : Fr (fun _ => False) w w') : UpI w0 w' gk TK0 gt gm l t :=
  ⟨h.tk.fr hf (fun _ _ h => h), h.tab.fr hf (fun h => h) (fun h => h) (fun _ _ h => h), h.nt, h.new, h.fr.trans' hf (fun _ _ e => e.elim)⟩
theorem UpI.take (h : UpI w0 w gk TK0 gt gm l t) (ht : TK w' gk TK0 t'.1 t'.2) (hf : Fr TK0 w w') : UpI w0 w' gk TK0 gt gm l t' :=
  ⟨ht, h.tab.fr hf h.nt.1 h.nt.2.1 h.nt.2.2, h.nt, h.new, h.fr.trans' hf (fun b _ e => h.new.2.2.2 b e)⟩
theorem UpI.other (h : UpI w0 w gk TK0 gt gm l t) {S : Nat → Prop} (hf : Fr S w w') (h1 : ∀ b, S b → w0.heap.size ≤ b ∧ ¬ TK0 b ∧ b ≠ gt ∧ b ≠ gm ∧ ∀ p ∈ l, p.2.b ≠ b) : UpI w0 w' gk TK0 gt gm l t :=
  ⟨h.tk.fr hf (fun b hb e => (h1 b e).2.1 hb), h.tab.fr hf (fun e => (h1 _ e).2.2.1 rfl) (fun e => (h1 _ e).2.2.2.1 rfl) (fun p hp e => (h1 _ e).2.2.2.2 p hp rfl), h.nt, h.new, h.fr.trans' hf (fun b _ e => (h1 b e).1)⟩
end
theorem rowsT_succ (k : Nat) (t : Tst) (c before : Int) (acc : Rows) : rowsT (k + 1) t c before acc = if (readT t c).1.1 ≤ before then none else rowsT k (readT t c).2 c (readT t c).1.1 (putS ktI.lt acc (readT t c).1.1 (readT t c).1.2) := rfl
theorem readT_num (t : Tst) (c : Int) : (readT t c).1.1 = (tk t 1 4294967296).1 := by unfold readT; dsimp only; split <;> rfl
theorem readT_in (t : Tst) (c : Int) : 0 ≤ (readT t c).1.1 ∧ (readT t c).1.1 ≤ 4294967296 := by rw [readT_num]; exact tk_in1 t (by omega)
set_option maxRecDepth 100000 in
set_option maxHeartbeats 16000000 in
theorem iUnpack (w : World) (v : Value) (bs : List Int) (hb : Bs w v bs) (hl : (bs.length : Int) ≤ 140737488351232) (hby : ∀ x ∈ bs, 0 ≤ x ∧ x < 256) :
    Calls Try.prog 21 #[v] w fun e w' =>
      Below w.heap.size w w' ∧ ((unpT bs = none ∧ e = .returned (.tuple #[.pointer none, .int .i64 10])) ∨ ∃ A g TS, unpT bs = some A ∧ e = .returned (.tuple #[.pointer (some ⟨g, 0, none⟩), .int .i64 0]) ∧ TA w' g TS A ∧ ∀ b, TS b → w.heap.size ≤ b) := by
  have HC := Lib.hid (cTake w v bs hb hl hby)
  obtain ⟨U, hU⟩ : ∃ U, unpT bs = U := ⟨_, rfl⟩
  rw [hU]
  have HU := Lib.hid hU
  clear hb hl hby hU
  go_enter Try.func21, Try.ntmps21
  go_wp2_with fail
  refine HC.out.mono ?_
  rintro e w1 ⟨gk, TK0, rfl, hK, hF1, hTK⟩
  clear HC
  go_wp2_with fail
  refine (iNew w1).mono ?_
  rintro e w2 ⟨rfl, hT, hB2, hs2⟩
  have hI : UpI w w2 gk TK0 (w1.heap.size + 1) w1.heap.size [] (bs, false) :=
    ⟨hK.fr (Fr.below (S := fun _ => False) hB2) (fun _ _ h => h), hT, ⟨fun e => by have := hK.lt _ e; omega, fun e => by have := hK.lt _ e; omega, fun p hp => by cases hp⟩, ⟨by have := hF1.size; omega, hF1.size, (fun p hp => by cases hp), hTK⟩, (hF1.mono (fun _ _ e => e.elim)).trans (Fr.below hB2)⟩
  have HI := Lib.hid hI
  obtain ⟨gt, hgt⟩ : ∃ gt, w1.heap.size + 1 = gt := ⟨_, rfl⟩
  obtain ⟨gm, hgm⟩ : ∃ gm, w1.heap.size = gm := ⟨_, rfl⟩
  rw [hgt, hgm] at HI
  have hne : gt ≠ gm := by omega
  simp only [hgt] at *
  clear hI hK hT hs2 hB2 hF1 hTK hgt hgm
  go_wp2_with fail
  refine (xTk w2 gk TK0 (bs, false) 0 64 HI.out.tk).mono ?_
  have hn := tk_in (bs, false) (a := 0) (b := 64) (by omega) (by omega)
  obtain ⟨k0, hk0⟩ : ∃ k, tk (bs, false) 0 64 = k := ⟨_, rfl⟩
  rw [hk0] at hn ⊢
  rintro e w3 ⟨rfl, hK3, hF3⟩
  have HI := Lib.hid (HI.out.take hK3 hF3)
  obtain ⟨hn0, hn1⟩ := hn
  have HUU : Hid ((match cliT k0.1.toNat k0.2 (-1) [] with | none => none | some R => if doneT R.2.1 R.2.2 = 0 then some R.1 else none) = U) := Lib.hid (by rw [← HU.out, unpT, hk0])
  clear hK3 hF3 hk0 HU
  obtain ⟨N, hN⟩ : ∃ N : Nat, k0.1 = N := ⟨k0.1.toNat, by omega⟩
  rw [hN, Int.toNat_natCast] at HUU
  rw [hN] at hn0 hn1 ⊢
  clear hn0 hN
  obtain ⟨R0, hR0⟩ : ∃ R0, cliT N k0.2 (-1) [] = R0 := ⟨_, rfl⟩
  rw [hR0] at HUU
  have HR0 := Lib.hid hR0; have HNE := Lib.hid hne
  clear hR0 hne
  go_wp2_with fail
  go_loopw [18, 6] (fun i la wr => ∃ (k : Nat) (last : Int) (l : List (Int × Cl)) (t : Tst), k ≤ N ∧ i = .int .i64 k ∧ la = .int .i64 last ∧ UpI w wr gk TK0 gt gm l t ∧ cliT (N - k) t last (absl l) = R0 ∧ l.length ≤ k ∧ (∀ p ∈ absl l, isCl p.1 = true) ∧ (∀ p ∈ absl l, p.2.2.length ≤ 128)) (fun i _ _ => N - (intOf i).toNat)
  case atStart => exact ⟨0, -1, [], k0.2, Nat.zero_le _, rfl, rfl, HI.out, HR0.out, Nat.le_refl _, (fun p hp => by cases hp), (fun p hp => by cases hp)⟩
  case round =>
    obtain ⟨k, last, l, t, hk, rfl, rfl, hI, hC, hlk, hkey, hlen⟩ := hrel
    have HI := Lib.hid hI; have HC := Lib.hid hC; have HK := Lib.hid hkey; have HL := Lib.hid hlen
    clear hI hC hkey hlen HR0
    by_cases hlt : k < N
    · go_wp2_with fail
      refine (xTk wr gk TK0 t 0 63 HI.out.tk).mono ?_
      have hc := tk_in t (a := 0) (b := 63) (by omega) (by omega)
      obtain ⟨c, hcc⟩ : ∃ c, tk t 0 63 = c := ⟨_, rfl⟩
      rw [hcc] at hc ⊢
      rintro e w4 ⟨rfl, hK4, hF4⟩
      have HI4 := Lib.hid (HI.out.take hK4 hF4)
      have HCC := Lib.hid hcc
      obtain ⟨hc0, hc1⟩ := hc
      clear hK4 hF4 hcc HI
      go_wp2_with fail
      refine (xTk w4 gk TK0 c.2 1 4294967297 HI4.out.tk).mono ?_
      have hm := tk_in1 c.2 (b := 4294967297) (by omega)
      obtain ⟨mk, hmm⟩ : ∃ x, tk c.2 1 4294967297 = x := ⟨_, rfl⟩
      rw [hmm] at hm ⊢
      rintro e w5 ⟨rfl, hK5, hF5⟩
      have HI5 := Lib.hid (HI4.out.take hK5 hF5)
      have HMM := Lib.hid hmm
      obtain ⟨hm0, hm1⟩ := hm
      clear hK5 hF5 hmm HI4
      have hmk := @run_makeMap Try.prog
      go_wp2_with fail
      have hI6 := HI5.out.keep (((Fr.refl (fun _ => False) w5).alloc (.map #[] 0)).alloc (.cells #[.int .i64 mk.1, .map (some w5.heap.size)] 68))
      have hx6 : ((w5.alloc (.map #[] 0)).alloc (.cells #[.int .i64 mk.1, .map (some w5.heap.size)] 68)).heap[w5.heap.size + 1]? = some (.cells #[.int .i64 mk.1, .map (some w5.heap.size)] 68) := heap_at (by simp) _
      have hr6 : Mp Try.prog ((w5.alloc (.map #[] 0)).alloc (.cells #[.int .i64 mk.1, .map (some w5.heap.size)] 68)) 3 ktI RowV.enc w5.heap.size [] := (Mp.made Try.prog w5 3 ktI RowV.enc).alloc _
      have hnew : w.heap.size ≤ w5.heap.size ∧ (∀ b, w5.heap.size ≤ b → ¬ TK0 b) ∧ gt < w5.heap.size ∧ gm < w5.heap.size ∧ ∀ p ∈ l, p.2.b < w5.heap.size :=
        ⟨HI5.out.fr.size, fun b hb e => by have := HI5.out.tk.lt b e; omega, HI5.out.tab.glt, HI5.out.tab.map.lt, fun p hp => (HI5.out.tab.rows p hp).lt⟩
      obtain ⟨mb, hmb⟩ : ∃ mb, w5.heap.size = mb := ⟨_, rfl⟩
      rw [hmb] at hI6 hx6 hr6 hnew ⊢
      obtain ⟨W6, hW6⟩ : ∃ W6, (w5.alloc (.map #[] 0)).alloc (.cells #[.int .i64 mk.1, .map (some mb)] 68) = W6 := ⟨_, rfl⟩
      rw [hW6] at hI6 hx6 hr6 ⊢
      have HI6 := Lib.hid hI6; have HX6 := Lib.hid hx6; have HR6 := Lib.hid hr6; have HNW := Lib.hid hnew
      have p0 := cell_obj hx6 0 (.int .i64 mk.1) rfl
      have hwr : IntKind.i64.wrap (mk.1 - 1) = mk.1 - 1 := by rw [IntKind.wrap_i64]; omega
      have hn := tk_in mk.2 (a := 0) (b := 128) (by omega) (by omega)
      obtain ⟨nn, hnn⟩ : ∃ x, tk mk.2 0 128 = x := ⟨_, rfl⟩
      rw [hnn] at hn
      have HNN := Lib.hid hnn; have HNB := Lib.hid hn
      have hxT : ∀ w', TK w' gk TK0 mk.2.1 mk.2.2 → Calls Try.prog 43 #[.pointer (some ⟨gk, 0, none⟩), .int .i64 0, .int .i64 128] w' fun e w'' => e = .returned (.int .i64 nn.1) ∧ TK w'' gk TK0 nn.2.1 nn.2.2 ∧ Fr TK0 w' w'' := fun w' h => by rw [← hnn]; exact xTk w' gk TK0 mk.2 0 128 h
      have HXT := Lib.hid hxT
      have HI7 := HI6; have HX7 := HX6; have HR7 := HR6
      clear hI6 hx6 hr6 hnew hmb hW6 hmk hnn hn hxT
      go_region_held3 (fun w' => w'.cell? ⟨mb + 1, 0, none⟩ = some (.int .i64 mk.1)) (first | exact p0 | exact cell_obj HX7.out 0 (.int .i64 mk.1) rfl)
        (first | (go_at_call 43; refine (HXT.out _ (HI7.out.tk.fr (Fr.refl (fun _ => False) W6).drew (fun _ _ h => h))).mono ?_; rintro e w7 ⟨rfl, hK7, hF7⟩; have HX7 := Lib.hid (hF7.at_ HX6.out (HNW.out.2.1 _ (by omega))); have HR7 := Lib.hid (hF7.mp HR6.out.drew (HNW.out.2.1 _ (by omega))); have HI7 := Lib.hid ((HI6.out.keep (Fr.refl _ W6).drew).take hK7 hF7); clear hK7 hF7))
      have hsc : cliT (N - k) t last (absl l) = (if c.1 ≤ last ∨ (mk.1 ≤ 1 ∧ nn.1 = 0) then none else match rowsT nn.1.toNat nn.2 c.1 (mk.1 - 1) [] with | none => none | some R => cliT (N - (k + 1)) R.2 c.1 (putS ktI.lt (absl l) c.1 (mk.1, R.1))) := by
        rw [show N - k = (N - (k + 1)) + 1 by omega, cliT]
        simp only [HCC.out, HMM.out, HNN.out]
      rw [HC.out] at hsc
      obtain ⟨hnn0, hnn1⟩ := HNB.out
      obtain ⟨M, hM⟩ : ∃ M : Nat, nn.1 = M := ⟨nn.1.toNat, by omega⟩
      rw [hM] at hsc hnn1 ⊢
      rw [Int.toNat_natCast] at hsc
      have HB7 := Lib.hid (HI7.out.fr.toBelow (B := w.heap.size) (fun b e => e) (Nat.le_refl _))
      have p7 := cell_obj HX7.out 0 (.int .i64 mk.1) rfl
      clear hnn0 hM HNB HNN HXT HCC HMM HC HI6 HX6 HR6 hwr p0
      by_cases hb1 : c.1 ≤ last
      · rw [if_pos (.inl hb1)] at hsc
        have hUn : U = none := by rw [← HUU.out, hsc]
        have HUN := Lib.hid hUn
        clear hsc hUn
        go_wp2_with fail
        go_ret2
        exact ⟨HB7.out, .inl ⟨HUN.out, rfl⟩⟩
      · by_cases hb2 : mk.1 ≤ 1 ∧ (M : Int) = 0
        · obtain ⟨hb2, hb3⟩ := hb2
          rw [if_pos (.inr ⟨hb2, hb3⟩)] at hsc
          have hUn : U = none := by rw [← HUU.out, hsc]
          have HUN := Lib.hid hUn
          clear hsc hUn
          obtain rfl : M = 0 := by omega
          go_wp2_with fail
          go_ret2
          exact ⟨HB7.out, .inl ⟨HUN.out, rfl⟩⟩
        · rw [if_neg (fun e => e.elim hb1 hb2)] at hsc
          have HSC := Lib.hid hsc
          have hb4 : ¬ mk.1 ≤ 1 ∨ (mk.1 ≤ 1 ∧ ((M : Int) == 0) = false) := by
            by_cases h : mk.1 ≤ 1
            · exact .inr ⟨h, by simp; intro e; exact hb2 ⟨h, by omega⟩⟩
            · exact .inl h
          clear hb2 hsc
          rcases hb4 with hb4 | ⟨hb4, hb5⟩
          all_goals
            go_wp2_with fail
            go_loopw [44, 10] (fun i be wr => ∃ (j : Nat) (before : Int) (acc : Rows) (t' : Tst), j ≤ M ∧ i = .int .i64 j ∧ be = .int .i64 before ∧ UpI w wr gk TK0 gt gm l t' ∧ wr.heap[mb + 1]? = some (.cells #[.int .i64 mk.1, .map (some mb)] 68) ∧ Mp Try.prog wr 3 ktI RowV.enc mb acc ∧ (match rowsT (M - j) t' c.1 before acc with | none => none | some R => cliT (N - (k + 1)) R.2 c.1 (putS ktI.lt (absl l) c.1 (mk.1, R.1))) = R0 ∧ acc.length ≤ j) (fun i _ _ => M - (intOf i).toNat)
            case atStart => exact ⟨0, _, [], nn.2, Nat.zero_le _, rfl, rfl, HI7.out, HX7.out, HR7.out, HSC.out.symm, Nat.le_refl _⟩
            case round =>
              obtain ⟨j, before, acc, t', hj, rfl, rfl, hIj, hXj, hRj, hCj, hlj⟩ := hrel
              have HIj := Lib.hid hIj; have HXj := Lib.hid hXj; have HRj := Lib.hid hRj; have HCj := Lib.hid hCj
              clear hIj hXj hRj hCj HI7 HX7 HR7 p7 HSC
              by_cases hlt2 : j < M
              · go_wp2_with fail
                have hin := readT_in t' c.1
                refine (iRead wr gk TK0 t' c.1 HIj.out.tk).mono ?_
                have hCs := HCj.out
                rw [show M - j = (M - (j + 1)) + 1 by omega, rowsT_succ] at hCs
                obtain ⟨x, hx⟩ : ∃ x, readT t' c.1 = x := ⟨_, rfl⟩
                rw [hx] at hin hCs ⊢
                obtain ⟨⟨num, ⟨mix, dn, ⟨ac, an, acode, an2⟩⟩⟩, t8⟩ := x
                dsimp only at hin hCs
                have HCS := Lib.hid hCs
                obtain ⟨hin0, hin1⟩ := hin
                unfold RowV.enc
                dsimp only
                rintro e w8 ⟨rfl, hK8, hF8⟩
                have HI8 := Lib.hid (HIj.out.take hK8 hF8)
                have HX8 := Lib.hid (hF8.at_ HXj.out (HNW.out.2.1 _ (by omega)))
                have HR8 := Lib.hid (hF8.mp HRj.out (HNW.out.2.1 _ (by omega)))
                clear hK8 hF8 hx hCs HIj HXj HRj HCj
                have p7 := cell_obj HX8.out 1 (.map (some mb)) rfl
                have hxs : mb + 1 < w8.heap.size := (Array.getElem?_eq_some_iff.1 HX8.out).1
                by_cases hb6 : num ≤ before
                · have hsc := HCS.out
                  rw [if_pos hb6] at hsc
                  have hUn : U = none := by rw [← HUU.out, ← hsc]
                  have HUN := Lib.hid hUn
                  have HB8 := Lib.hid ((HI8.out.keep ((Fr.refl _ w8).alloc (.cells #[.int .u64 mix, .bool dn, .int .i64 ac, .int .i64 an, .int .i64 acode, .int .i64 an2] 73))).fr.toBelow (B := w.heap.size) (fun b e => e) (Nat.le_refl _))
                  clear hsc hUn
                  go_wp2_with fail
                  go_ret2
                  exact ⟨HB8.out, .inl ⟨HUN.out, rfl⟩⟩
                · have hsc := HCS.out
                  rw [if_neg hb6] at hsc
                  have HSJ := Lib.hid hsc
                  obtain ⟨w9, hst, hM9, ht9⟩ := (HR8.out.alloc (.cells #[.int .u64 mix, .bool dn, .int .i64 ac, .int .i64 an, .int .i64 acode, .int .i64 an2] 73)).store idK Try.underlying66 (by omega) (x := num) (by show okI num; unfold okI; omega) ⟨mix, dn, ⟨ac, an, acode, an2⟩⟩
                  have hst' : (Instr.mapUpdate 66 (.map (some mb)) (.int .i64 num) (.agg #[.int .u64 mix, .bool dn, .int .i64 ac, .int .i64 an, .int .i64 acode, .int .i64 an2])).run Try.prog (w8.alloc (.cells #[.int .u64 mix, .bool dn, .int .i64 ac, .int .i64 an, .int .i64 acode, .int .i64 an2] 73)) = .ok () w9 := hst
                  have hF9 : Fr (fun b => b = mb) w8 w9 := ((Fr.refl _ w8).alloc _).trans (Fr.turned ht9 rfl)
                  have HI9 := Lib.hid (HI8.out.other hF9 (fun b e => by subst e; exact ⟨HNW.out.1, HNW.out.2.1 _ (Nat.le_refl _), by have := HNW.out.2.2.1; omega, by have := HNW.out.2.2.2.1; omega, fun p hp => by have := HNW.out.2.2.2.2 p hp; omega⟩))
                  have HX9 := Lib.hid (hF9.at_ HX8.out (by omega))
                  have HM9 := Lib.hid hM9
                  have HL9 := Lib.hid (putS_len ktI.lt acc num ⟨mix, dn, ⟨ac, an, acode, an2⟩⟩)
                  clear hst hM9 ht9 hF9 hsc
                  go_wp2_with fail
                  go_roundw
                  case rel => exact ⟨j + 1, num, _, t8, by omega, by go_num, rfl, HI9.out, HX9.out, HM9.out, HSJ.out, by have := HL9.out; omega⟩
                  case measure => simp [intOf]; omega
              · have hjM : j = M := by omega
                subst hjM
                have hCs := HCj.out
                rw [Nat.sub_self] at hCs
                have hCs : cliT (N - (k + 1)) t' c.1 (putS ktI.lt (absl l) c.1 (mk.1, acc)) = R0 := hCs
                have HCS := Lib.hid hCs
                have p0 := cell_obj HXj.out 0 (.int .i64 mk.1) rfl
                have p1 := cell_obj HXj.out 1 (.map (some mb)) rfl
                have p2 := HIj.out.tab.cell
                obtain ⟨w9, hst, hM9, ht9⟩ := HIj.out.tab.map.drew.store idK Try.underlying61 (by omega) (x := c.1) (by show okI c.1; unfold okI; omega) ⟨mk.1, mb, acc⟩
                have hst' : (Instr.mapUpdate 61 (.map (some gm)) (.int .i64 c.1) (.agg #[.int .i64 mk.1, .map (some mb)])).run Try.prog wr.drew = .ok () w9 := hst
                have hF9 : Fr (fun b => b = gm) wr w9 := ((Fr.refl _ wr).drew).trans (Fr.turned ht9 rfl)
                have hR9 := hF9.mp HRj.out (fun e => by have := HNW.out.2.2.2.1; omega)
                have hT9 : Tab w9 gt gm (putS ktI.lt l c.1 ⟨mk.1, mb, acc⟩) := HIj.out.tab.put hF9 HNE.out (fun b e => .inl e) hM9 hR9 (by have := HNW.out.2.2.2.1; show mb ≠ gm; omega) (fun p hp e => by have := HNW.out.2.2.2.2 p (mem_delS.1 hp).1; have : p.2.b = mb := e; omega)
                have hI9 : UpI w w9 gk TK0 gt gm (putS ktI.lt l c.1 ⟨mk.1, mb, acc⟩) t' := by
                  have hn := HIj.out.nt
                  have hw := HIj.out.new
                  refine ⟨HIj.out.tk.fr hF9 (fun b hb e => hn.2.1 (e ▸ hb)), hT9, ⟨hn.1, hn.2.1, fun p hp => ?_⟩, ⟨hw.1, hw.2.1, fun p hp => ?_, hw.2.2.2⟩, HIj.out.fr.trans' hF9 (fun b _ e => e ▸ hw.2.1)⟩
                  · rcases mem_putS.1 hp with rfl | hp
                    · exact HNW.out.2.1 _ (Nat.le_refl _)
                    · exact hn.2.2 p (mem_delS.1 hp).1
                  · rcases mem_putS.1 hp with rfl | hp
                    · exact HNW.out.1
                    · exact hw.2.2.1 p (mem_delS.1 hp).1
                have hA9 : absl (putS ktI.lt l c.1 ⟨mk.1, mb, acc⟩) = putS ktI.lt (absl l) c.1 (mk.1, acc) := absl_put ..
                have HI9 := Lib.hid hI9; have HA9 := Lib.hid hA9
                clear hst hCs hM9 ht9 hF9 hR9 hT9 hI9 hA9 HCj HXj HRj HIj
                go_wp2_with fail
                refine wp_region_still_tail 6 (by kernel_rfl) (by kernel_rfl) ?_
                simp only [List.take_succ_cons, List.take_zero, List.drop_succ_cons, List.drop_zero]
                change wpStill _ _ wr.drew (fun a' => wpList _ _ _ _ a' wr.drew) _ _
                have p0 : wr.drew.cell? ⟨mb + 1, 0, none⟩ = _ := p0
                have p1 : wr.drew.cell? ⟨mb + 1, 1, none⟩ = _ := p1
                have p2 : wr.drew.cell? ⟨gt, 0, none⟩ = _ := p2
                generalize wr.drew = V at *
                repeat still_step
                refine wpStill_nil ?_
                clear p0 p1 p2
                go_wp2_with fail
                go_roundw
                case rel =>
                  refine ⟨k + 1, c.1, _, t', by omega, by go_num, rfl, HI9.out, by rw [HA9.out]; exact HCS.out, by have := putS_len ktI.lt l c.1 (⟨mk.1, mb, acc⟩ : Cl); omega, ?_, ?_⟩
                  · rw [HA9.out]
                    intro p hp
                    rcases mem_putS.1 hp with rfl | hp
                    · unfold isCl; simp; omega
                    · exact HK.out p (mem_delS.1 hp).1
                  · rw [HA9.out]
                    intro p hp
                    rcases mem_putS.1 hp with rfl | hp
                    · show acc.length ≤ 128; omega
                    · exact HL.out p (mem_delS.1 hp).1
                case measure => simp [intOf]; omega
    · have hkN : N = k := by omega
      have hC0 : some (absl l, t) = R0 := by have := HC.out; rw [hkN, Nat.sub_self] at this; exact this
      have hres : (if doneT t.1 t.2 = 0 then some (absl l) else none) = U := by have := HUU.out; rw [← hC0] at this; exact this
      have hI := HI.out
      generalize hdd : doneT t.1 t.2 = dd at hres
      have hdn := cTDone wr gk TK0 t.1 t.2 hI.tk
      rw [hdd] at hdn
      have HDN := Lib.hid hdn
      have hRES := Lib.hid hres
      have HB := Lib.hid (hI.fr.toBelow (B := w.heap.size) (fun b e => e) (Nat.le_refl _))
      by_cases hd0 : dd = 0
      · subst hd0
        clear hkN hC0 hres hI hdn hdd
        go_wp2_with (go_at_call 45; refine HDN.out.mono ?_; rintro e w5 ⟨rfl, rfl⟩)
        go_ret2
        refine ⟨HB.out, .inr ⟨absl l, gt, fun b => b = gt ∨ b = gm ∨ ∃ p ∈ l, b = p.2.b, ?_, rfl, ⟨⟨gm, l, HI.out.tab, rfl, .inr (.inl rfl), fun p hp => .inr (.inr ⟨p, hp, rfl⟩)⟩, .inl rfl, ?_, HK.out, HL.out⟩, ?_⟩⟩
        · rw [← hRES.out]; simp
        · rintro b (rfl | rfl | ⟨p, hp, rfl⟩)
          · exact HI.out.tab.glt
          · exact HI.out.tab.map.lt
          · exact (HI.out.tab.rows p hp).lt
        · rintro b (rfl | rfl | ⟨p, hp, rfl⟩)
          · exact HI.out.new.1
          · exact HI.out.new.2.1
          · exact HI.out.new.2.2.1 p hp
      · have hdf : (dd != 0) = true := by simpa using hd0
        have hUn := hRES.out
        rw [if_neg hd0] at hUn
        have HUN := Lib.hid hUn
        clear hkN hC0 hres hI hdn hdd hUn
        go_wp2_with (go_at_call 45; refine HDN.out.mono ?_; rintro e w5 ⟨rfl, rfl⟩)
        go_ret2
        exact ⟨HB.out, .inl ⟨HUN.out.symm, rfl⟩⟩
end Go.Proofs.Ytakjiicnbocjeaa
namespace Go.Proofs.Ytakjiicnbocjeaa
open Go.RowKit Go.Maps
def Byt (l : List Int) : Prop := ∀ x ∈ l, 0 ≤ x ∧ x < 256
structure GoodR (c : Int) (q : Int × RowV) : Prop where
  nu : 1 ≤ q.1 ∧ q.1 ≤ 4294967296
  ok : RowOk q.2
  code : 0 ≤ q.2.a.code ∧ q.2.a.code ≤ 1000
  ans : if q.2.done = true then q.2.a.c = c ∧ q.2.a.n = q.1 else q.2.a = Ans.zero
structure GoodC (p : Int × (Int × Rows)) : Prop where
  key : 0 ≤ p.1 ∧ p.1 ≤ 63
  mark : 1 ≤ p.2.1 ∧ p.2.1 ≤ 4294967297
  len : p.2.2.length ≤ 128
  rows : ∀ q ∈ p.2.2, GoodR p.1 q
  pres : 1 < p.2.1 ∨ 0 < p.2.2.length
  rise : Rise p.2.2
  low : ∀ q ∈ p.2.2, p.2.1 ≤ q.1
structure Good (A : Tbl) : Prop where
  all : ∀ p ∈ A, GoodC p
  rise : Rise A
theorem Good.tok {A : Tbl} (h : Good A) : TOk A where
  keys p hp := by have := (h.all p hp).key; unfold isCl; simp; omega
  marks p hp := (h.all p hp).mark
  lens p hp := (h.all p hp).len
  nums p hp q hq := by have := ((h.all p hp).rows q hq).nu; unfold isNu; simp; omega
  rows p hp q hq := ⟨((h.all p hp).rows q hq).ok, ((h.all p hp).rows q hq).code⟩
theorem Good.len {A : Tbl} (h : Good A) : A.length ≤ 64 := by
  have h2 : (A.map (·.1)).Pairwise (fun x y : Int => x < y) := by rw [List.pairwise_map]; exact h.rise
  have := rise_len (lo := 0) (hi := 64) h2 (fun x hx => by
    obtain ⟨p, hp, rfl⟩ := List.mem_map.1 hx
    have := (h.all p hp).key; omega) (by omega)
  simp at this; omega
theorem tk_bad {t : Tst} (h : t.2 = true) (a b : Int) : tk t a b = (0, t) := by
  obtain ⟨bs, bad⟩ := t
  dsimp only at h
  subst h
  simp [tk, numT]
theorem tk_bad0 (t : Tst) (a b : Int) (h : (tk t a b).2.2 = true) : (tk t a b).1 = 0 := by
  unfold tk numT at *
  dsimp only at *
  split at h
  · simp_all
  · split at h
    · split at h
      · simp_all
      · cases h
    · simp_all
theorem tk_ok {t : Tst} {a b : Int} (h : (tk t a b).2.2 = false) : t.2 = false ∧ a ≤ (tk t a b).1 ∧ (tk t a b).1 ≤ b := by
  obtain ⟨bs, bad⟩ := t
  unfold tk numT at *
  dsimp only at *
  cases bad with
  | true => simp at h
  | false =>
    cases e : firstB bs with
    | none => rw [e] at h; simp at h
    | some p =>
      obtain ⟨n, k⟩ := p
      rw [e] at h
      simp only [Bool.false_eq_true, if_false] at h ⊢
      by_cases hr : n < a ∨ b < n
      · rw [if_pos hr] at h; cases h
      · rw [if_neg hr]
        refine ⟨by first | rfl | trivial, ?_⟩
        dsimp only; omega
theorem tk_take {t : Tst} {a b : Int} (hb : Byt t.1) (h : (tk t a b).2.2 = false) : okI (tk t a b).1 ∧ t.1 = numB (tk t a b).1 ++ (tk t a b).2.1 ∧ (a ≤ (tk t a b).1 ∧ (tk t a b).1 ≤ b) ∧ t.2 = false ∧ Byt (tk t a b).2.1 := by
  obtain ⟨bs, bad⟩ := t
  unfold tk numT at *
  dsimp only at *
  cases bad with
  | true => simp at h
  | false =>
    cases e : firstB bs with
    | none => rw [e] at h; simp at h
    | some p =>
      obtain ⟨n, k⟩ := p
      rw [e] at h
      simp only [Bool.false_eq_true, if_false] at h ⊢
      by_cases hr : n < a ∨ b < n
      · rw [if_pos hr] at h; cases h
      · rw [if_neg hr]
        obtain ⟨h1, h2, h3⟩ := firstB_of e hb
        exact ⟨h1, h3, by dsimp only; omega, by first | rfl | trivial, fun x hx => hb x (List.mem_of_mem_drop hx)⟩
theorem tk_give {n a b : Int} (h : okI n) (h1 : a ≤ n) (h2 : n ≤ b) (r : List Int) : tk (numB n ++ r, false) a b = (n, (r, false)) := by
  unfold tk numT
  simp only [Bool.false_eq_true, if_false, firstB_num h]
  rw [if_neg (by omega)]
  simp
set_option maxRecDepth 100000 in
theorem mixOf_eq {h l : Int} (h0 : 0 ≤ h) (h1 : h ≤ 4294967295) (l0 : 0 ≤ l) (l1 : l ≤ 4294967295) : mixOf h l = h * 4294967296 + l := by
  obtain ⟨x, rfl⟩ : ∃ x : Nat, h = x := ⟨h.toNat, by omega⟩
  obtain ⟨y, rfl⟩ : ∃ y : Nat, l = y := ⟨l.toNat, by omega⟩
  unfold mixOf
  rw [show ((x : Int) * 4294967296) = ((x * 4294967296 : Nat) : Int) by omega, u64_or_nat _ _ (by omega) (by omega)]
  have := Nat.two_pow_add_eq_or_of_lt (i := 32) (b := y) (by omega) x
  rw [Nat.mul_comm x 4294967296]
  rw [show (4294967296 : Nat) = 2 ^ 32 from rfl, ← this]
  omega
set_option maxRecDepth 100000 in
theorem mixMod {x : Int} (h0 : 0 ≤ x) (h1 : x < 18446744073709551616) : bits .and .u64 x 4294967295 = x % 4294967296 := by
  obtain ⟨n, rfl⟩ : ∃ n : Nat, x = n := ⟨x.toNat, by omega⟩
  rw [show (4294967295 : Int) = ((4294967295 : Nat) : Int) from rfl, u64_and_nat _ _ (by omega) (by omega)]
  have := Nat.and_two_pow_sub_one_eq_mod n 32
  rw [show (4294967295 : Nat) = 2 ^ 32 - 1 from rfl, this]
  omega
theorem numB_one : numB 1 = [1] := by simp [numB]
theorem numB_zero : numB 0 = [0] := by simp [numB]
set_option maxRecDepth 100000 in
theorem readT_take {t : Tst} {c : Int} (hb : Byt t.1) (h : (readT t c).2.2 = false) :
    t.1 = (rowCs (readT t c).1.1 (readT t c).1.2).flatten ++ (readT t c).2.1 ∧ t.2 = false ∧ GoodR c (readT t c).1 ∧ Byt (readT t c).2.1 := by
  obtain ⟨n, hn⟩ : ∃ n, tk t 1 4294967296 = n := ⟨_, rfl⟩
  obtain ⟨hi, hhi⟩ : ∃ x, tk n.2 0 4294967295 = x := ⟨_, rfl⟩
  obtain ⟨lo, hlo⟩ : ∃ x, tk hi.2 0 4294967295 = x := ⟨_, rfl⟩
  obtain ⟨f, hf⟩ : ∃ x, tk lo.2 0 1 = x := ⟨_, rfl⟩
  have hrd : readT t c = if (f.1 == 1) = true then ((n.1, ⟨mixOf hi.1 lo.1, true, ⟨c, n.1, (tk f.2 0 1000).1, (tk (tk f.2 0 1000).2 (-9223372036854775808) 9223372036854775807).1⟩⟩), (tk (tk f.2 0 1000).2 (-9223372036854775808) 9223372036854775807).2) else ((n.1, ⟨mixOf hi.1 lo.1, false, Ans.zero⟩), f.2) := by
    subst hn hhi hlo hf; rfl
  have hback : f.2.2 = false → Byt f.2.1 ∧ t.1 = numB n.1 ++ (numB hi.1 ++ (numB lo.1 ++ (numB f.1 ++ f.2.1))) ∧ t.2 = false ∧ (1 ≤ n.1 ∧ n.1 ≤ 4294967296) ∧ (0 ≤ hi.1 ∧ hi.1 ≤ 4294967295) ∧ (0 ≤ lo.1 ∧ lo.1 ≤ 4294967295) ∧ (0 ≤ f.1 ∧ f.1 ≤ 1) := by
    intro hf2
    have b0 : lo.2.2 = false := by
      have : lo.2.2 ≠ true := fun e => by rw [← hf, show tk lo.2 0 1 = (0, lo.2) by obtain ⟨x, y⟩ := lo; obtain ⟨y, z⟩ := y; dsimp only at e; subst e; simp [tk, numT]] at hf2; rw [e] at hf2; cases hf2
      simpa using this
    have b1 : hi.2.2 = false := by
      have : hi.2.2 ≠ true := fun e => by rw [← hlo, show tk hi.2 0 4294967295 = (0, hi.2) by obtain ⟨x, y⟩ := hi; obtain ⟨y, z⟩ := y; dsimp only at e; subst e; simp [tk, numT]] at b0; rw [e] at b0; cases b0
      simpa using this
    have b2 : n.2.2 = false := by
      have : n.2.2 ≠ true := fun e => by rw [← hhi, show tk n.2 0 4294967295 = (0, n.2) by obtain ⟨x, y⟩ := n; obtain ⟨y, z⟩ := y; dsimp only at e; subst e; simp [tk, numT]] at b1; rw [e] at b1; cases b1
      simpa using this
    obtain ⟨_, a1, a2, a3, a4⟩ := tk_take hb (by rw [hn]; exact b2)
    rw [hn] at a1 a2 a4
    obtain ⟨_, c1, c2, c3, c4⟩ := tk_take a4 (by rw [hhi]; exact b1)
    rw [hhi] at c1 c2 c4
    obtain ⟨_, d1, d2, d3, d4⟩ := tk_take c4 (by rw [hlo]; exact b0)
    rw [hlo] at d1 d2 d4
    obtain ⟨_, e1, e2, e3, e4⟩ := tk_take d4 (by rw [hf]; exact hf2)
    rw [hf] at e1 e2 e4
    exact ⟨e4, by rw [a1, c1, d1, e1], a3, a2, c2, d2, e2⟩
  rw [hrd] at h ⊢
  by_cases hd : (f.1 == 1) = true
  · rw [if_pos hd] at h ⊢
    dsimp only at h ⊢
    have hf1 : f.1 = 1 := by simpa using hd
    have b4 : (tk f.2 0 1000).2.2 = false := by
      have : (tk f.2 0 1000).2.2 ≠ true := fun e => by
        obtain ⟨x, hx⟩ : ∃ x, tk f.2 0 1000 = x := ⟨_, rfl⟩
        rw [hx] at e h
        rw [show tk x.2 (-9223372036854775808) 9223372036854775807 = (0, x.2) by obtain ⟨x, y⟩ := x; obtain ⟨y, z⟩ := y; dsimp only at e; subst e; simp [tk, numT]] at h
        rw [e] at h; cases h
      simpa using this
    have b3 : f.2.2 = false := by
      have : f.2.2 ≠ true := fun e => by
        rw [show tk f.2 0 1000 = (0, f.2) by obtain ⟨x, y⟩ := f; obtain ⟨y, z⟩ := y; dsimp only at e; subst e; simp [tk, numT]] at b4
        rw [e] at b4; cases b4
      simpa using this
    obtain ⟨hby, ht, ht2, hn2, hh2, hl2, -⟩ := hback b3
    obtain ⟨o1, a1, a2, a3, a4⟩ := tk_take hby b4
    obtain ⟨o2, c1, c2, c3, c4⟩ := tk_take a4 h
    have hm := mixOf_eq hh2.1 hh2.2 hl2.1 hl2.2
    have hand := mixMod (x := mixOf hi.1 lo.1) (by omega) (by omega)
    refine ⟨?_, ht2, ⟨hn2, ⟨by dsimp only; omega, by dsimp only; omega, o1, o2⟩, a2, by simp⟩, c4⟩
    rw [ht, a1, c1]
    unfold rowCs
    dsimp only
    rw [hand, hm, show (hi.1 * 4294967296 + lo.1) / 4294967296 = hi.1 by omega, show (hi.1 * 4294967296 + lo.1) % 4294967296 = lo.1 by omega, hf1, numB_one]
    simp
  · rw [if_neg hd] at h ⊢
    dsimp only at h ⊢
    obtain ⟨hby, ht, ht2, hn2, hh2, hl2, hf2⟩ := hback h
    have hf0 : f.1 = 0 := by
      have : f.1 ≠ 1 := by simpa using hd
      omega
    have hm := mixOf_eq hh2.1 hh2.2 hl2.1 hl2.2
    have hand := mixMod (x := mixOf hi.1 lo.1) (by omega) (by omega)
    refine ⟨?_, ht2, ⟨hn2, ⟨by dsimp only; omega, by dsimp only; omega, by dsimp only [Ans.zero]; unfold okI; omega, by dsimp only [Ans.zero]; unfold okI; omega⟩, by dsimp only [Ans.zero]; omega, by simp⟩, hby⟩
    rw [ht]
    unfold rowCs
    dsimp only
    rw [hand, hm, show (hi.1 * 4294967296 + lo.1) / 4294967296 = hi.1 by omega, show (hi.1 * 4294967296 + lo.1) % 4294967296 = lo.1 by omega, hf0, numB_zero]
    simp
set_option maxRecDepth 100000 in
theorem readT_give {c : Int} {q : Int × RowV} (h : GoodR c q) (r : List Int) : readT ((rowCs q.1 q.2).flatten ++ r, false) c = (q, (r, false)) := by
  obtain ⟨n, ⟨mix, dn, a⟩⟩ := q
  obtain ⟨nu, ⟨m0, m1, o1, o2⟩, co, an⟩ := h
  dsimp only at nu m0 m1 o1 o2 co an
  have hand := mixMod m0 m1
  have k1 : okI n := by unfold okI; omega
  have k2 : okI (mix / 4294967296) := okHi m0 m1
  have k3 : okI (mix % 4294967296) := by unfold okI; omega
  have hmx : mixOf (mix / 4294967296) (mix % 4294967296) = mix := by rw [mixOf_eq (by omega) (by omega) (by omega) (by omega)]; omega
  cases dn with
  | true =>
    have e : (rowCs n ⟨mix, true, a⟩).flatten ++ r = numB n ++ (numB (mix / 4294967296) ++ (numB (mix % 4294967296) ++ (numB 1 ++ (numB a.code ++ (numB a.k ++ r))))) := by
      unfold rowCs; dsimp only; rw [hand, numB_one]; simp
    dsimp only
    rw [e]
    unfold readT
    have o2' : -9223372036854775808 ≤ a.k ∧ a.k ≤ 9223372036854775807 := o2
    simp only [tk_give k1 nu.1 nu.2, tk_give k2 (show 0 ≤ mix / 4294967296 by omega) (show mix / 4294967296 ≤ 4294967295 by omega), tk_give k3 (show 0 ≤ mix % 4294967296 by omega) (show mix % 4294967296 ≤ 4294967295 by omega),
      tk_give (show okI 1 by unfold okI; omega) (show (0 : Int) ≤ 1 by omega) (show (1 : Int) ≤ 1 by omega), tk_give o1 co.1 co.2, tk_give o2 o2'.1 o2'.2, hmx]
    simp only [if_true] at an
    obtain ⟨ac, an', acode, ak⟩ := a
    dsimp only at an
    obtain ⟨rfl, rfl⟩ := an
    simp
  | false =>
    have e : (rowCs n ⟨mix, false, a⟩).flatten ++ r = numB n ++ (numB (mix / 4294967296) ++ (numB (mix % 4294967296) ++ (numB 0 ++ r))) := by
      unfold rowCs; dsimp only; rw [hand, numB_zero]; simp
    dsimp only
    rw [e]
    unfold readT
    simp only [tk_give k1 nu.1 nu.2, tk_give k2 (show 0 ≤ mix / 4294967296 by omega) (show mix / 4294967296 ≤ 4294967295 by omega), tk_give k3 (show 0 ≤ mix % 4294967296 by omega) (show mix % 4294967296 ≤ 4294967295 by omega),
      tk_give (show okI 0 by unfold okI; omega) (show (0 : Int) ≤ 0 by omega) (show (0 : Int) ≤ 1 by omega), hmx]
    have an : a = Ans.zero := by simpa using an
    subst an
    simp
end Go.Proofs.Ytakjiicnbocjeaa
namespace Go.Proofs.Ytakjiicnbocjeaa
open Go.RowKit Go.Maps
theorem readT_ok {t : Tst} {c : Int} (h : t.2 = true) : (readT t c).2.2 = true := by
  unfold readT; simp [tk_bad h, h]
theorem putS_end {ν : Type} {l : List (Int × ν)} {n : Int} {v : ν} (h : ∀ p ∈ l, p.1 < n) : putS ktI.lt l n v = l ++ [(n, v)] := by
  have := putS_app (L := l) (M := []) (v := v) h (fun p hp => by cases hp)
  simpa using this
/-- A row of rows that rises behind number before. -/
structure RowsG (c before : Int) (R : Rows) : Prop where
  all : ∀ q ∈ R, GoodR c q ∧ before < q.1
  rise : Rise R
theorem rowsT_ok : ∀ (k : Nat) {t : Tst} {c before : Int} {acc : Rows} {R : Rows × Tst}, rowsT k t c before acc = some R → R.2.2 = false → t.2 = false
  | 0, t, c, before, acc, R, h, hR => by cases h; exact hR
  | k + 1, t, c, before, acc, R, h, hR => by
    rw [rowsT_succ] at h
    split at h
    · cases h
    · have := rowsT_ok k h hR
      cases e : t.2 with
      | false => rfl
      | true => rw [readT_ok e] at this; cases this
theorem rowsT_take : ∀ (k : Nat) {t : Tst} {c before : Int} {acc : Rows} {R : Rows × Tst}, (∀ p ∈ acc, p.1 ≤ before) → Byt t.1 → rowsT k t c before acc = some R → R.2.2 = false →
    ∃ R', R.1 = acc ++ R' ∧ R'.length = k ∧ t.1 = (rowsC R').flatten ++ R.2.1 ∧ RowsG c before R' ∧ Byt R.2.1
  | 0, t, c, before, acc, R, _, hb, h, hR => by
    cases h
    exact ⟨[], by simp, rfl, by simp [rowsC], ⟨fun q hq => (by cases hq), List.Pairwise.nil⟩, hb⟩
  | k + 1, t, c, before, acc, R, ha, hb, h, hR => by
    rw [rowsT_succ] at h
    by_cases hle : (readT t c).1.1 ≤ before
    · rw [if_pos hle] at h; cases h
    · rw [if_neg hle] at h
      have hlt : before < (readT t c).1.1 := by omega
      rw [putS_end (fun p hp => by have := ha p hp; omega)] at h
      have hok := rowsT_ok k h hR
      obtain ⟨e1, e2, e3, e4⟩ := readT_take hb hok
      obtain ⟨R', r1, r2, r3, r5, r6⟩ := rowsT_take k (by
        intro p hp
        rcases List.mem_append.1 hp with hp | hp
        · have := ha p hp; omega
        · simp at hp; subst hp; exact Int.le_refl _) e4 h hR
      refine ⟨((readT t c).1.1, (readT t c).1.2) :: R', by rw [r1]; simp, by simp [r2], ?_, ⟨?_, ?_⟩, r6⟩
      · rw [e1, r3]; simp [rowsC]
      · intro q hq
        rcases List.mem_cons.1 hq with rfl | hq
        · exact ⟨e3, hlt⟩
        · exact ⟨(r5.all q hq).1, by have := (r5.all q hq).2; omega⟩
      · exact List.pairwise_cons.2 ⟨fun q hq => (r5.all q hq).2, r5.rise⟩
theorem rowsT_give {c : Int} : ∀ {R : Rows} {before : Int} {acc : Rows} (r : List Int), (∀ p ∈ acc, p.1 ≤ before) → RowsG c before R → rowsT R.length ((rowsC R).flatten ++ r, false) c before acc = some (acc ++ R, (r, false))
  | [], before, acc, r, _, _ => by simp [rowsT, rowsC]
  | q :: R, before, acc, r, ha, h => by
    obtain ⟨hq, hlt⟩ := h.all q (by simp)
    obtain ⟨h1, h2⟩ := List.pairwise_cons.1 h.rise
    have e : (rowsC (q :: R)).flatten ++ r = (rowCs q.1 q.2).flatten ++ ((rowsC R).flatten ++ r) := by simp [rowsC]
    rw [e, List.length_cons, rowsT_succ, readT_give hq]
    dsimp only
    rw [if_neg (by omega)]
    rw [putS_end (fun p hp => by have := ha p hp; omega), rowsT_give r (by
      intro p hp
      rcases List.mem_append.1 hp with hp | hp
      · have := ha p hp; omega
      · simp at hp; subst hp; exact Int.le_refl _) ⟨fun p hp => ⟨(h.all p (by simp [hp])).1, h1 p hp⟩, h2⟩]
    simp
theorem cliT_succ (k : Nat) (t : Tst) (last : Int) (A : Tbl) {c m n : Int × Tst} (hc : tk t 0 63 = c) (hm : tk c.2 1 4294967297 = m) (hn : tk m.2 0 128 = n) :
    cliT (k + 1) t last A = if c.1 ≤ last ∨ (m.1 ≤ 1 ∧ n.1 = 0) then none else match rowsT n.1.toNat n.2 c.1 (m.1 - 1) [] with | none => none | some R => cliT k R.2 c.1 (putS ktI.lt A c.1 (m.1, R.1)) := by
  subst hc hm hn; rfl
theorem cliT_ok : ∀ (k : Nat) {t : Tst} {last : Int} {A : Tbl} {R : Tbl × Tst}, cliT k t last A = some R → R.2.2 = false → t.2 = false
  | 0, t, last, A, R, h, hR => by cases h; exact hR
  | k + 1, t, last, A, R, h, hR => by
    cases e : t.2 with
    | false => rfl
    | true =>
      rw [cliT_succ k t last A rfl rfl rfl, if_pos (by simp [tk_bad e])] at h
      cases h
theorem cliT_take : ∀ (k : Nat) {t : Tst} {last : Int} {A : Tbl} {R : Tbl × Tst}, (∀ p ∈ A, p.1 ≤ last) → Byt t.1 → cliT k t last A = some R → R.2.2 = false →
    ∃ A', R.1 = A ++ A' ∧ A'.length = k ∧ t.1 = (A'.flatMap cliC).flatten ++ R.2.1 ∧ ((∀ p ∈ A', GoodC p ∧ last < p.1) ∧ Rise A') ∧ Byt R.2.1
  | 0, t, last, A, R, _, hb, h, hR => by
    cases h
    exact ⟨[], by simp, rfl, by simp, ⟨fun q hq => (by cases hq), List.Pairwise.nil⟩, hb⟩
  | k + 1, t, last, A, R, ha, hb, h, hR => by
    obtain ⟨c, hc⟩ : ∃ c, tk t 0 63 = c := ⟨_, rfl⟩
    obtain ⟨m, hm⟩ : ∃ x, tk c.2 1 4294967297 = x := ⟨_, rfl⟩
    obtain ⟨n, hn⟩ : ∃ x, tk m.2 0 128 = x := ⟨_, rfl⟩
    rw [cliT_succ k t last A hc hm hn] at h
    by_cases hcond : c.1 ≤ last ∨ (m.1 ≤ 1 ∧ n.1 = 0)
    · rw [if_pos hcond] at h; cases h
    · rw [if_neg hcond] at h
      cases hr : rowsT n.1.toNat n.2 c.1 (m.1 - 1) [] with
      | none => rw [hr] at h; cases h
      | some S =>
        rw [hr] at h
        dsimp only at h
        have hS := cliT_ok k h hR
        have hn2 := rowsT_ok _ hr hS
        have hm2 : m.2.2 = false := by have := (tk_ok (t := m.2) (a := 0) (b := 128) (by rw [hn]; exact hn2)).1; exact this
        have hc2 : c.2.2 = false := by have := (tk_ok (t := c.2) (a := 1) (b := 4294967297) (by rw [hm]; exact hm2)).1; exact this
        obtain ⟨_, c1, c2, c3, c4⟩ := tk_take hb (by rw [hc]; exact hc2)
        rw [hc] at c1 c2 c4
        obtain ⟨_, m1, m2, m3, m4⟩ := tk_take c4 (by rw [hm]; exact hm2)
        rw [hm] at m1 m2 m4
        obtain ⟨_, n1, n2, n3, n4⟩ := tk_take m4 (by rw [hn]; exact hn2)
        rw [hn] at n1 n2 n4
        obtain ⟨R', r1, r2, r3, r5, r6⟩ := rowsT_take _ (fun p hp => by cases hp) n4 hr hS
        rw [List.nil_append] at r1
        have hnk : ((R'.length : Nat) : Int) = n.1 := by rw [r2]; omega
        rw [putS_end (fun p hp => by have := ha p hp; omega)] at h
        obtain ⟨A', a1, a2, a3, a5, a6⟩ := cliT_take k (by
          intro p hp
          rcases List.mem_append.1 hp with hp | hp
          · have := ha p hp; omega
          · simp at hp; subst hp; exact Int.le_refl _) r6 h hR
        have hG : GoodC (c.1, (m.1, S.1)) := by
          refine ⟨c2, m2, ?_, ?_, ?_, ?_, ?_⟩
          · rw [r1]; dsimp only; omega
          · rw [r1]; exact fun q hq => (r5.all q hq).1
          · rw [r1]; dsimp only; omega
          · rw [r1]; exact r5.rise
          · rw [r1]; dsimp only; exact fun q hq => by have := (r5.all q hq).2; omega
        refine ⟨(c.1, (m.1, S.1)) :: A', by rw [a1]; simp, by simp [a2], ?_, ⟨?_, ?_⟩, a6⟩
        · rw [c1, m1, n1, r3, a3]
          simp only [List.flatMap_cons, cliC, List.flatten_append, List.flatten_cons, List.flatten_nil, List.append_assoc, List.nil_append, List.append_nil]
          rw [r1, hnk]
        · intro q hq
          rcases List.mem_cons.1 hq with rfl | hq
          · exact ⟨hG, by dsimp only; omega⟩
          · exact ⟨(a5.1 q hq).1, by have := (a5.1 q hq).2; omega⟩
        · exact List.pairwise_cons.2 ⟨fun q hq => (a5.1 q hq).2, a5.2⟩
theorem cliT_give : ∀ {A' : Tbl} {last : Int} {A : Tbl} (r : List Int), (∀ p ∈ A, p.1 ≤ last) → (∀ p ∈ A', GoodC p ∧ last < p.1) → Rise A' → cliT A'.length ((A'.flatMap cliC).flatten ++ r, false) last A = some (A ++ A', (r, false))
  | [], last, A, r, _, _, _ => by simp [cliT]
  | p :: A', last, A, r, ha, hg, hr => by
    obtain ⟨hp, hlt⟩ := hg p (by simp)
    obtain ⟨h1, h2⟩ := List.pairwise_cons.1 hr
    obtain ⟨c, ⟨mk, R⟩⟩ := p
    obtain ⟨key, mark, len, rows, pres, rise, low⟩ := hp
    dsimp only at *
    have e : (((c, (mk, R)) :: A').flatMap cliC).flatten ++ r = numB c ++ (numB mk ++ (numB (R.length : Int) ++ ((rowsC R).flatten ++ ((A'.flatMap cliC).flatten ++ r)))) := by
      simp [cliC]
    rw [e, List.length_cons, cliT_succ A'.length _ last A (tk_give (by unfold okI; omega) key.1 key.2 _) (tk_give (okMk mark) mark.1 mark.2 _) (tk_give (okLen len) (by omega) (by omega) _), if_neg (by dsimp only; omega)]
    dsimp only
    rw [Int.toNat_natCast, rowsT_give _ (fun p hp => by cases hp) ⟨fun q hq => ⟨rows q hq, by have := low q hq; omega⟩, rise⟩]
    dsimp only
    rw [putS_end (fun p hp => by have := ha p hp; omega), List.nil_append, cliT_give r (by
      intro p hp
      rcases List.mem_append.1 hp with hp | hp
      · have := ha p hp; omega
      · simp at hp; subst hp; exact Int.le_refl _) (fun q hq => ⟨(hg q (by simp [hq])).1, h1 q hq⟩) h2]
    simp
/-- WHAT IS UNPACKED IS GOOD, and is packed as it was. -/
theorem unpT_take {bs : List Int} {A : Tbl} (hb : Byt bs) (h : unpT bs = some A) : Good A ∧ bs = (tabC A).flatten := by
  unfold unpT at h
  cases hc : cliT (tk (bs, false) 0 64).1.toNat (tk (bs, false) 0 64).2 (-1) [] with
  | none => rw [hc] at h; cases h
  | some R =>
    rw [hc] at h
    dsimp only at h
    by_cases hd : doneT R.2.1 R.2.2 = 0
    · rw [if_pos hd] at h
      cases h
      have hd2 : R.2.2 = false ∧ R.2.1 = [] := by
        unfold doneT at hd
        split at hd
        · omega
        · rename_i hn
          refine ⟨?_, ?_⟩
          · cases e : R.2.2 with
            | false => rfl
            | true => exact absurd (.inl e) hn
          · exact Classical.byContradiction fun e => hn (.inr e)
      have hk := cliT_ok _ hc hd2.1
      obtain ⟨_, t1, t2, t3, t4⟩ := tk_take (t := (bs, false)) hb hk
      obtain ⟨A', a1, a2, a3, a5, a6⟩ := cliT_take _ (fun p hp => by cases hp) t4 hc hd2.1
      rw [List.nil_append] at a1
      rw [a1]
      refine ⟨⟨fun p hp => (a5.1 p hp).1, a5.2⟩, ?_⟩
      have t1 : bs = _ := t1
      rw [a3, hd2.2, List.append_nil] at t1
      rw [t1]
      unfold tabC
      rw [a2, List.flatten_cons, show (((tk (bs, false) 0 64).1.toNat : Nat) : Int) = (tk (bs, false) 0 64).1 by omega]
    · rw [if_neg hd] at h; cases h
theorem unpT_give {A : Tbl} (h : Good A) : unpT (tabC A).flatten = some A := by
  have hl := h.len
  unfold unpT
  have e : (tabC A).flatten = numB (A.length : Int) ++ (A.flatMap cliC).flatten := by simp [tabC]
  rw [e, tk_give (by unfold okI; omega) (by omega) (by omega)]
  dsimp only
  have := cliT_give (A' := A) (last := -1) (A := []) [] (fun p hp => by cases hp) (fun p hp => ⟨h.all p hp, by have := (h.all p hp).key; omega⟩) h.rise
  rw [List.append_nil, List.nil_append] at this
  rw [Int.toNat_natCast, this]
  simp [doneT]
theorem nSz_of' {u k : Nat} (hk : k ≤ 8) (h : u < 256 ^ k) : nSz u ≤ k := by
  have h2 : u < 2 ^ (8 * k) := by rw [Nat.pow_mul]; exact h
  have := Lib.bitLen_le u (8 * k) (by omega) h2
  unfold nSz; omega
theorem numB_le {n : Int} {k : Nat} (hk : k ≤ 8) (h0 : 0 ≤ n) (h : n < ((256 ^ k : Nat) : Int)) : (numB n).length ≤ k + 1 := by
  by_cases hs : 0 ≤ n ∧ n < 128
  · unfold numB; rw [if_pos hs]; simp
  · rw [numB_big hs]
    have hu : numU n = n.toNat := by unfold numU; rw [if_neg (by omega)]
    have := nSz_of' (u := numU n) hk (by rw [hu]; omega)
    simp [beB_len]; exact this
set_option maxRecDepth 100000 in
theorem rowCs_len {c : Int} {q : Int × RowV} (h : GoodR c q) : ((rowCs q.1 q.2).flatten).length ≤ 29 := by
  obtain ⟨n, ⟨mix, dn, a⟩⟩ := q
  obtain ⟨nu, ⟨m0, m1, o1, o2⟩, co, an⟩ := h
  dsimp only at nu m0 m1 o1 o2 co an
  have hand := mixMod m0 m1
  have h1 := numB_le (n := n) (k := 5) (by omega) (by omega) (by omega)
  have h2 := numB_le (n := mix / 4294967296) (k := 4) (by omega) (by omega) (by omega)
  have h3 := numB_le (n := mix % 4294967296) (k := 4) (by omega) (by omega) (by omega)
  have h4 := numB_le (n := a.code) (k := 2) (by omega) (by omega) (by omega)
  have h5 := (numB_len o2).2
  unfold rowCs
  dsimp only
  rw [hand]
  cases dn <;> simp <;> omega
theorem rowsC_len {c : Int} : ∀ {R : Rows}, (∀ q ∈ R, GoodR c q) → ((rowsC R).flatten).length ≤ 29 * R.length
  | [], _ => by simp [rowsC]
  | q :: R, h => by
    have h1 := rowCs_len (h q (by simp))
    have h2 := rowsC_len (R := R) (fun p hp => h p (by simp [hp]))
    have e : (rowsC (q :: R)).flatten = (rowCs q.1 q.2).flatten ++ (rowsC R).flatten := by simp [rowsC]
    rw [e, List.length_append, List.length_cons]; omega
set_option maxRecDepth 100000 in
theorem cliC_len {p : Int × (Int × Rows)} (h : GoodC p) : ((cliC p).flatten).length ≤ 3722 := by
  obtain ⟨key, mark, len, rows, pres, rise, low⟩ := h
  have h1 := numB_le (n := p.1) (k := 1) (by omega) (by omega) (by omega)
  have h2 := numB_le (n := p.2.1) (k := 5) (by omega) (by omega) (by omega)
  have h3 := numB_le (n := (p.2.2.length : Int)) (k := 1) (by omega) (by omega) (by omega)
  have h4 := rowsC_len rows
  unfold cliC
  simp only [List.flatten_append, List.flatten_cons, List.flatten_nil, List.length_append, List.length_nil]
  omega
theorem tabs_len : ∀ {A : Tbl}, (∀ p ∈ A, GoodC p) → ((A.flatMap cliC).flatten).length ≤ 3722 * A.length
  | [], _ => by simp
  | p :: A, h => by
    have h1 := cliC_len (h p (by simp))
    have h2 := tabs_len (A := A) (fun q hq => h q (by simp [hq]))
    rw [List.flatMap_cons, List.flatten_append, List.length_append, List.length_cons]; omega
theorem mkAll_flat : ∀ {cs : List (List Int)} {bs : List Int}, bs.length + cs.flatten.length ≤ 262144 → mkAll (bs, false) cs = (bs ++ cs.flatten, false)
  | [], bs, _ => by simp [mkAll]
  | c :: r, bs, h => by
    rw [List.flatten_cons, List.length_append] at h
    have e : mkP (bs, false) c = (bs ++ c, false) := by
      unfold mkP putB putL
      have : ¬ 262144 < bs.length + c.length := by omega
      simp [this]
    have := mkAll_flat (cs := r) (bs := bs ++ c) (by rw [List.length_append]; omega)
    unfold mkAll at *
    rw [List.foldl_cons, e, this]
    simp
theorem tab_flat {A : Tbl} (h : Good A) : mkAll ([], false) (tabC A) = ((tabC A).flatten, false) := by
  have h1 := tabs_len h.all
  have h2 := h.len
  have h3 := numB_le (n := (A.length : Int)) (k := 1) (by omega) (by omega) (by omega)
  have e : (tabC A).flatten = numB (A.length : Int) ++ (A.flatMap cliC).flatten := by simp [tabC]
  have := mkAll_flat (cs := tabC A) (bs := []) (by rw [e, List.length_append, List.length_nil]; omega)
  rw [this, List.nil_append]
end Go.Proofs.Ytakjiicnbocjeaa
namespace Go.Proofs.Ytakjiicnbocjeaa
open Go.RowKit
section
variable {w w' : World} {size m : Nat} {A : Option Addr} {xs : List Value} {P : Program}
theorem step_append_src {ops : Array Oper} {o : Oper} {a : Act} {K : Act → World → Prop} {Q : Exit → Act → World → Prop} {E : Prop} (hgd : o.guard = none) (s x : Operand) (t : TypeId)
    (ho : o.op = .call { callee := .builtin .append, args := #[s, x], argTypes := #[t, t] })
    (base : Nat) (e : TypeId) (i : TypeInfo) (z : Value) (bytes : Nat) (ht : P.underlying t = some (.slice e)) (hi : P.info? e = some i) (hz : i.zero = some z)
    (hsize : i.size = size) (hby : i.bytes = bytes) (hzs : z.cells.size = size) (hsz : 0 < size) (v : Value) (n : Nat) (ys : List Value) (hs : a.eval s = v) (hown : w.ownsRow base e size v n ys)
    (c : Nat) (hx : a.eval x = .slice A m c) (hr : Rd w size A m xs) (h1 : ∀ u ∈ xs, u.oneCell' = true) (h63 : n + m ≤ maxLen) (hbytes : (n + m) * bytes ≤ 140737488355328) (hbase : base ≤ w.heap.size)
    (h : ∀ v' w', w'.ownsRow base e size v' (n + m) (ys ++ xs) → w.grownBy w' v.ownBlock → (v'.ownBlock = v.ownBlock ∨ v'.ownBlock = some w.heap.size) → K (a.put o.dst v') w') :
    if Region.wanted o (yielded ops a.tmps) = true then Oper.wp P o a w K Q else E := by
  have hw : Region.wanted o (yielded ops a.tmps) = true := by simp [Region.wanted, hgd]
  rw [if_pos hw]
  obtain ⟨v', w', hr, h2, h3, h5⟩ := run_append_src (P := P) base t o.type e i z bytes ht hi hz hsize hby hzs hsz v n ys hown c hr h1 h63 hbytes hbase
  unfold Oper.wp execOp
  simp only [ho, resolve, invoke, builtin, Sem.run_bind, Sem.run_pure, Result.andThen_ok, List.map_toArray, List.map_cons, List.map_nil, hs, hx, hr]
  exact h v' w' h2 h3 h5
theorem own_none {w : World} {base size : Nat} {t : TypeId} (h : base ≤ w.heap.size) : (w.alloc (.cells #[] t)).ownsRow base t size (.slice (some ⟨w.heap.size, 0, none⟩) 0 0) 0 [] :=
  ⟨by simp, .inr ⟨_, _, _, rfl, h, heap_new _ _, Nat.le_refl _, by unfold maxLen; omega, by simp, by simp⟩⟩
theorem rd_obj {w : World} {g : Nat} {cs : List Value} {t : TypeId} {size : Nat} (h : w.heap[g]? = some (.cells cs.toArray t)) (hs : cs.length = size) : Rd w size (some ⟨g, 0, none⟩) 1 cs :=
  ⟨by omega, fun _ => ⟨_, rfl, fun j u hu => by
    have : (⟨g, 0, none⟩ : Addr).add j = ⟨g, j, none⟩ := by unfold Addr.add; split <;> simp_all
    rw [this]
    exact cell_obj h j u (by simpa using hu)⟩⟩
end
end Go.Proofs.Ytakjiicnbocjeaa
