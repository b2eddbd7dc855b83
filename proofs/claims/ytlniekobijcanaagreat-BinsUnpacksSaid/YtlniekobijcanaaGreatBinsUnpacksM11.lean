/- Texts of this claim, joined: bins: Bins, as an iterator; bins: no floor; lives; Plain: floors stay floors; Plain: what the reference takes out of bytes as a floor is what bins takes; entrepotref27: Find; entrepotref05.May; entrepotref06: Good, May, Same; entrepotref06: May, Same; entrepotref06: Of; entrepotref27: left, Left, kind, takes, may, Of; The document's cells (entrepotref01): Maker.Text; entrepotref06: May; entrepotref06: Put; entrepotref27: Pack; entrepotref06: Read; entrepotref27: May; entrepotref27: New. -/
import Derived.Test.YtlniekobijcanaaGreatBinsUnpacksM3
import Derived.Test.YtlniekobijcanaaGreatBinsUnpacksM2
import Derived.Test.YtlniekobijcanaaGreatBinsUnpacksM9
import Derived.Test.YtlniekobijcanaaGreatBinsUnpacksM7
import Derived.Test.YtlniekobijcanaaGreatBinsUnpacksM8
import Derived.Test.YtlniekobijcanaaGreatBinsUnpacksM10
import Derived.Test.YtlniekobijcanaaGreatBinsUnpacksM4
import Derived.Deep.QuietTactic
import Derived.BigQuiet
import Derived.Test.YtlniekobijcanaaGreatBinsUnpacksM1
import Derived.Lib.AppendStr
import Derived.Test.YtlniekobijcanaaGreatBinsUnpacksM5
namespace Go.Proofs.YtlniekobijcanaaGreat
open Go.RowKit Go.Maps
def encB (b : BV) : Array Value := #[.agg #[.int .i64 b.nu, .int .i64 b.zo, .int .i64 b.ro]]
theorem Fl.fr {S : Nat → Prop} {W W' : World} {g : Nat} {L : List BV} (h : Fl W g L) (hf : Fr S W W') (hS : ∀ b, S b → W.heap.size ≤ b) : Fl W' g L := by
  obtain ⟨a, c, h1, h2⟩ := h
  exact ⟨a, c, hf.at_ h1 (fun e => by have := (Array.getElem?_eq_some_iff.1 h1).1; have := hS g e; omega), h2.fr bokKeeps hf hS⟩
theorem bBins (w : World) (p : Option Addr) : Calls Tryz.prog 30 #[.pointer p] w fun e w' => e = .returned (.func (.func 83) #[] #[.pointer (some ⟨w.heap.size, 0, none⟩)]) ∧ w' = w.alloc (.cells #[.pointer p] 25) := by
  go_enter Tryz.func30, Tryz.ntmps30
  go_wp2
  go_ret
  exact ⟨rfl, rfl⟩
set_option maxRecDepth 100000 in
set_option maxHeartbeats 4000000 in
theorem bBins1 (S : Nat → Prop) (w : World) (Bt g : Nat) (L : List BV) (hBt : Boxed w Bt 25 (.pointer (some ⟨g, 0, none⟩))) (h : Fl w g L) (hL : 0 < L.length) (n1 : ∀ b, b < w.heap.size → ¬ S b) :
    ItX 83 #[.pointer (some ⟨Bt, 0, none⟩)] encB L S w := by
  intro lp S' J Jx W hW hS' hJ hY hJx h0
  have hBW := boxed_below hBt hW hBt.lt
  have s2 : ∀ b, S' b → w.heap.size ≤ b := fun b e => by
    rcases Nat.lt_or_ge b w.heap.size with hb | hb
    · exact absurd ((hS' b e).2 hb) (n1 b hb)
    · exact hb
  have hcB := hBW.cell
  have hFW := h.fr (Fr.below (S := fun _ => False) hW) (fun _ e => e.elim)
  have hm := Lib.hid (bMade W g L hFW hL)
  obtain ⟨a, c, q1, q2⟩ := h
  have hNb := q2.len
  obtain ⟨N, hN⟩ : ∃ N, L.length = N := ⟨_, rfl⟩
  rw [hN] at q1 q2 hNb
  have c0 := cell_obj ((Fr.below (S := fun _ => False) hW).at_ q1 (fun e => e)) 0 (.slice a N c) rfl
  have HN := Lib.hid hN; have HW := Lib.hid hW; have HY := Lib.hid hY
  have S2 : Hid (∀ b, S' b → w.heap.size ≤ b) := Lib.hid s2
  have hfn : ∀ f, Fence.wide.fn f := fun _ => trivial
  have hdp : Fence.wide.depth.isSome = false := rfl
  have hlow : Hid (∀ W', Fr (fun b => w.heap.size ≤ b) w W' → Bl W' (.slice a N c) L) := Lib.hid (fun W' hf => q2.fr bokKeeps hf (fun b hb => hb))
  clear hBt n1 hS' hBW s2 hN q1 q2 hL hW hFW hY
  refine (callsIn_wide (n := 0)).1 ?_
  refine callsIn_of_wp Tryz.func83 rfl trivial ?_ rfl
  simp only [Tryz.ntmps83, List.size_toArray, List.length_cons, List.length_nil, Nat.reduceAdd, Nat.reduceSub, Array.replicate_succ, Array.replicate_zero, List.push_toArray, List.append_toArray, List.nil_append, List.cons_append]
  gi_wp2_with (gi_at_call 57; refine (callsIn_wide.2 hm.out).mono ?_; rintro e w1 ⟨rfl, rfl⟩)
  gi_loopw [13] (fun i wr => ∃ (k : Nat) (C : Nat → Prop), k ≤ N ∧ i = .int .i64 k ∧ J k C wr ∧ (∀ b, C b → W.heap.size ≤ b ∧ b < wr.heap.size) ∧ Fr (fun b => S' b ∨ C b) W wr) (fun i _ => N - (intOf i).toNat)
  case atStart => exact ⟨0, _, Nat.zero_le _, rfl, h0, fun _ h => False.elim h, Fr.refl _ _⟩
  case round =>
    obtain ⟨k, C, hk, rfl, hJr, hC, hkp⟩ := hrel
    by_cases hlt : k < N
    · obtain ⟨x, hx⟩ : ∃ x, L[k]? = some x := ⟨L[k]'(by rw [HN.out]; exact hlt), List.getElem?_eq_getElem _⟩
      have hfr : Fr (fun b => w.heap.size ≤ b) w wr := (Fr.below (S := fun b => w.heap.size ≤ b) HW.out).trans' hkp (fun b hb e => e.elim (S2.out b) (fun e => by have := (hC b e).1; have := HW.out.size; omega))
      obtain ⟨ad, rfl, hok, z0, zs⟩ := (hlow.out wr hfr).at_ hx
      obtain ⟨la, lc, hl⟩ := hok.l.sl
      have x0 := z0 (.int .i64 x.nu) rfl
      have x1 := zs 0 (.int .i64 x.zo) rfl
      have x2 := zs 1 (.int .i64 x.ro) rfl
      have x3 := zs 2 x.l rfl
      dsimp only [Nat.zero_add, Nat.reduceAdd] at x0 x1 x2 x3
      rw [hl] at x3
      have hlI : (k : Int) < N := by omega
      obtain ⟨W2, hW2⟩ : ∃ W2, wr.alloc (.cells #[.int .i64 x.nu, .int .i64 x.zo, .int .i64 x.ro, .slice la x.its.length lc] 76) = W2 := ⟨_, rfl⟩
      have hJ2 := hJ _ C _ _ hJr (frAlloc (B := W.heap.size) (.cells #[.int .i64 x.nu, .int .i64 x.zo, .int .i64 x.ro, .slice la x.its.length lc] 76))
      obtain ⟨fn, tmps, assign, body, hy, hR⟩ := HY.out _ x C _ hx hJ2
      dsimp only [encB] at hy
      have HR := Lib.hid hR; have HC := Lib.hid hC; have HK := Lib.hid hkp; have HX := Lib.hid hx; have HJR := Lib.hid hJr
      clear hfr hok z0 zs hl hJ2 hR hC hkp hx hJr hW2
      gi_wp2
      refine HR.out.mono ?_
      rintro e W3 (⟨rfl, hJ3, hk3⟩ | ⟨rfl, hJx3, _⟩)
      · have HJ3 := Lib.hid hJ3; have HK3 := Lib.hid hk3
        clear hJ3 hk3
        gi_wp2
        go_roundw
        case rel =>
          refine ⟨k + 1, _, by omega, by go_num, HJ3.out, ?_, ?_⟩
          · have hs3 := HK3.out.size
            simp at hs3
            rintro b (e | e)
            · have := HC.out b e; exact ⟨this.1, by omega⟩
            · have := HK.out.size
              have e1 := e.1
              simp at e1
              exact ⟨by omega, e.2⟩
          · exact ((HK.out.alloc _).mono (fun b _ e => e.elim .inl (fun e => .inr (.inl e)))).trans (HK3.out.mono (fun b _ e => e.elim .inl (fun e => .inr (.inl e))))
        case measure => simp [intOf]; omega
      · gi_wp2
        refine bodyPost_ret (results_none rfl _ _ _) rfl ?_
        refine ⟨⟨_, rfl⟩, .inr ⟨_, _, ?_, hJx3⟩⟩
        have := (List.getElem?_eq_some_iff.1 HX.out).1
        omega
    · have : k = N := by omega
      subst this
      gi_wp2
      go_end0
      exact ⟨⟨_, rfl⟩, .inl ⟨C, by rw [HN.out]; exact hJr⟩⟩
end Go.Proofs.YtlniekobijcanaaGreat
namespace Go.Proofs.YtlniekobijcanaaGreat
open Go.RowKit Go.Maps
theorem nFind (w : World) (n : Int) : Calls Tryz.prog 39 #[.pointer none, .int .i64 n] w fun e w' => e = .returned (.int .i64 (-1)) ∧ Fr (fun _ => False) w w' := by
  go_enter Tryz.func39, Tryz.ntmps39
  go_wp2_with (go_at_call 57; refine (bMade_no _).mono ?_; rintro e w1 ⟨rfl, rfl⟩)
  go_ret
  exact ⟨rfl, (Fr.refl _ _).alloc _⟩
theorem nMay (w : World) (s : Str) (n : Int) : Calls Tryz.prog 46 #[.pointer none, vS s, .int .i64 n] w fun e w' => e = .returned (.int .i64 6) ∧ Fr (fun _ => False) w w' := by
  go_enter Tryz.func46, Tryz.ntmps46
  go_wp2_with (go_at_call 57; refine (bMade_no _).mono ?_; rintro e w1 ⟨rfl, rfl⟩)
  go_ret
  exact ⟨rfl, Fr.refl _ _⟩
theorem nPut (w : World) (s : Str) (n : Int) : Calls Tryz.prog 19 #[.pointer none, vS s, .int .i64 n] w fun e w' => e = .returned (.tuple #[.slice none 0 0, .int .i64 6]) ∧ Fr (fun _ => False) w w' := by
  go_enter Tryz.func19, Tryz.ntmps19
  go_wp2_with (go_at_call 46; refine (nMay _ _ _).mono ?_; rintro e w1 ⟨rfl, hf⟩)
  go_ret2
  exact ⟨rfl, ((Fr.refl _ _).alloc _).trans hf⟩
theorem nTake (w : World) (s : Str) (n : Int) : Calls Tryz.prog 21 #[.pointer none, vS s, .int .i64 n] w fun e w' => e = .returned (.tuple #[.slice none 0 0, .int .i64 6]) ∧ Fr (fun _ => False) w w' := by
  go_enter Tryz.func21, Tryz.ntmps21
  go_wp2_with (go_at_call 46; refine (nMay _ _ _).mono ?_; rintro e w1 ⟨rfl, hf⟩)
  go_ret2
  exact ⟨rfl, ((Fr.refl _ _).alloc _).trans hf⟩
theorem nCount (w : World) (b : Int) (s : Str) (n : Int) : Calls Tryz.prog 31 #[.pointer none, .int .i64 b, vS s, .int .i64 n] w fun e w' => e = .returned (.tuple #[.int .i64 0, .int .i64 6]) ∧ Fr (fun _ => False) w w' := by
  go_enter Tryz.func31, Tryz.ntmps31
  go_wp2_with (go_at_call 57; refine (bMade_no _).mono ?_; rintro e w1 ⟨rfl, rfl⟩)
  go_ret2
  exact ⟨rfl, Fr.refl _ _⟩
theorem nMove (w : World) (s : Str) (a b n : Int) : Calls Tryz.prog 32 #[.pointer none, vS s, .int .i64 a, .int .i64 b, .int .i64 n] w fun e w' => e = .returned (.int .i64 6) ∧ Fr (fun _ => False) w w' := by
  go_enter Tryz.func32, Tryz.ntmps32
  go_wp2_with (first
    | (go_at_call 39; refine (nFind _ _).mono ?_; rintro e w2 ⟨rfl, hf2⟩; first | have HF := Lib.hid (HF.out.trans hf2) | have HF := Lib.hid hf2)
    | (go_at_call 57; refine (bMade_no _).mono ?_; rintro e w1 ⟨rfl, rfl⟩)
    | (go_at_call 46; refine (nMay _ _ _).mono ?_; rintro e w1 ⟨rfl, hf3⟩; have HF := Lib.hid (HF.out.trans hf3)))
  go_ret
  exact ⟨rfl, HF.out⟩
theorem nOf (w : World) (s : Str) : Calls Tryz.prog 20 #[.pointer none, vS s] w fun e w' => e = .returned (.int .i64 0) ∧ Fr (fun _ => False) w w' := by
  go_enter Tryz.func20, Tryz.ntmps20
  go_wp2_with (go_at_call 57; refine (bMade_no _).mono ?_; rintro e w1 ⟨rfl, rfl⟩)
  go_ret
  exact ⟨rfl, Fr.refl _ _⟩
theorem nIn (w : World) (n : Int) : Calls Tryz.prog 33 #[.pointer none, .int .i64 n] w fun e w' => e = .returned (.slice none 0 0) ∧ Fr (fun _ => False) w w' := by
  go_enter Tryz.func33, Tryz.ntmps33
  go_wp2_with (go_at_call 39; refine (nFind _ _).mono ?_; rintro e w2 ⟨rfl, hf2⟩)
  go_ret
  exact ⟨rfl, hf2⟩
theorem nLeft (w : World) (n : Int) : Calls Tryz.prog 34 #[.pointer none, .int .i64 n] w fun e w' => e = .returned (.int .i64 0) ∧ Fr (fun _ => False) w w' := by
  go_enter Tryz.func34, Tryz.ntmps34
  go_wp2_with (go_at_call 39; refine (nFind _ _).mono ?_; rintro e w2 ⟨rfl, hf2⟩)
  go_ret
  exact ⟨rfl, hf2⟩
theorem nPack (w : World) : Calls Tryz.prog 25 #[.pointer none] w fun e w' => e = .returned (.slice none 0 0) ∧ Fr (fun _ => False) w w' := by
  go_enter Tryz.func25, Tryz.ntmps25
  go_wp2_with (go_at_call 57; refine (bMade_no _).mono ?_; rintro e w1 ⟨rfl, rfl⟩)
  go_ret
  exact ⟨rfl, Fr.refl _ _⟩
end Go.Proofs.YtlniekobijcanaaGreat
namespace Go.Proofs.YtlniekobijcanaaGreat
open Go.RowKit Go.Maps
def sumE (M : List BE) (s : Str) : Int := M.foldl (fun a b => wrap64 (a + ofF b.its s)) 0
theorem sumE_e (L : List BV) (s : Str) : sumF L s = sumE (L.map BV.e) s := by
  unfold sumF sumE
  rw [List.foldl_map]
  rfl
def leftNE (M : List BE) (n : Int) : Int := match binE M n with | some b => leftE b | none => 0
def inNE (M : List BE) (n : Int) : Its := match binE M n with | some b => b.its | none => []
theorem leftNE_e (L : List BV) (n : Int) : leftN L n = leftNE (L.map BV.e) n := by
  unfold leftN leftNE
  rw [binE_e]
  cases binF L n <;> rfl
theorem inNE_e (L : List BV) (n : Int) : inN L n = inNE (L.map BV.e) n := by
  unfold inN inNE
  rw [binE_e]
  cases binF L n <;> rfl
def beokB (x : BE) : Bool := decide (1 ≤ x.nu) && decide (x.nu ≤ 4096) && decide (0 ≤ x.zo) && decide (x.zo ≤ 15) && decide (1 ≤ x.ro) && decide (x.ro ≤ 1099511627776) && mayL x.its && decide (sumI x.its ≤ x.ro)
theorem beok_of {x : BE} (h : beokB x = true) : BEok x := by
  unfold beokB at h
  simp only [Bool.and_eq_true, decide_eq_true_eq] at h
  obtain ⟨⟨⟨⟨⟨⟨⟨h1, h2⟩, h3⟩, h4⟩, h5⟩, h6⟩, h7⟩, h8⟩ := h
  exact ⟨⟨h1, h2⟩, ⟨h3, h4⟩, ⟨h5, h6⟩, h7, h8⟩
theorem beoks_of {M : List BE} (h : (M.all beokB) = true) : ∀ x ∈ M, BEok x := fun x hx => beok_of (List.all_eq_true.1 h x hx)
def lv0 : List BE := [⟨1, 0, 5, []⟩, ⟨2, 1, 3, []⟩]
def lv1 : List BE := [⟨1, 0, 5, [([97], 2)]⟩, ⟨2, 1, 3, []⟩]
def lv2 : List BE := [⟨1, 0, 5, [([97], 5)]⟩, ⟨2, 1, 3, [([97], 2)]⟩]
def lv3 : List BE := [⟨1, 0, 5, [([97], 4)]⟩, ⟨2, 1, 3, []⟩]
theorem lvP1 : putF lv0 [97] 2 = (lv1, 0, [⟨1, [97], 2⟩]) := by kernel_rfl
theorem lvP2 : putF lv1 [97] 5 = (lv2, 0, [⟨1, [97], 3⟩, ⟨2, [97], 2⟩]) := by kernel_rfl
theorem lvP3 : (putF lv2 [97] 2).2.1 = 1 := by kernel_rfl
theorem lvT : takeF lv2 [97] 3 = (lv3, 0, [⟨2, [97], 2⟩, ⟨1, [97], 1⟩]) := by kernel_rfl
theorem lvU : unpackE (packE lv3) = some lv3 := by kernel_rfl
theorem lvO : sumE lv3 [97] = 4 := by kernel_rfl
theorem lvL : leftNE lv3 1 = 1 := by kernel_rfl
theorem lvW : wayE lv3 [⟨1, [97], 3⟩, ⟨2, [97], 2⟩] = 102 := by kernel_rfl
theorem lvB : mayBs [⟨1, 0, 5⟩, ⟨2, 1, 3⟩] = true := by kernel_rfl
theorem lvM2 : mayF [97] 2 = 0 := by kernel_rfl
theorem lvM5 : mayF [97] 5 = 0 := by kernel_rfl
theorem lvM3 : mayF [97] 3 = 0 := by kernel_rfl
theorem lv0k : ∀ x ∈ lv0, BEok x := beoks_of (by kernel_rfl)
theorem lv1k : ∀ x ∈ lv1, BEok x := beoks_of (by kernel_rfl)
theorem lv2k : ∀ x ∈ lv2, BEok x := beoks_of (by kernel_rfl)
theorem lv3k : ∀ x ∈ lv3, BEok x := beoks_of (by kernel_rfl)
/-- A literal row, as bins that are asked for. -/
theorem sbi_new {w : World} {B : List BI} {n : Nat} (hn : B.length = n) (hm : n ≤ maxLen) (hB : ∀ b ∈ B, okI b.nu ∧ okI b.zo ∧ okI b.ro) : Sbi (w.alloc (.cells (flat biC B).toArray 36)) (.slice (some ⟨w.heap.size, 0, none⟩) n n) B := by
  subst hn
  refine Sq.own biSize (base := 0) ⟨flat_len1 biSize B, .inr ⟨w.heap.size, B.length, (flat biC B).toArray, rfl, Nat.zero_le _, heap_new _ _, Nat.le_refl _, hm, by rw [List.size_toArray, flat_len1 biSize], ?_⟩⟩ hB
  rw [List.take_of_length_le (by rw [flat_len1 biSize]; exact Nat.le_refl _)]
theorem neq_place (w : World) (p q : PV) : (binOp .neq 55 (.agg #[.int .i64 p.b, vS p.g, .int .i64 p.n]) (.agg #[.int .i64 q.b, vS q.g, .int .i64 q.n])).run Tryz.prog w = .ok (.bool (!(decide (p.b = q.b) && (decide (p.g = q.g) && decide (p.n = q.n))))) w := by
  by_cases h1 : p.b = q.b <;> by_cases h2 : p.g = q.g <;> by_cases h3 : p.n = q.n <;> simp [go_sem, h1, h2, h3]
theorem eql_place (w : World) (a n : Int) (s : Str) : (binOp .eql 55 (.agg #[.int .i64 a, vS s, .int .i64 n]) (.agg #[.int .i64 a, vS s, .int .i64 n])).run Tryz.prog w = .ok (.bool true) w := by
  simp [go_sem]
/-- A floor of the law's own, as it stands. -/
structure FS (w W : World) (g : Nat) (M : List BE) : Prop where
  ex : ∃ TS L, FA W g TS L ∧ L.map BV.e = M ∧ ∀ b, TS b → w.heap.size ≤ b
  fr : Fr (fun _ => False) w W
  ok : ∀ x ∈ M, BEok x
  len : 0 < M.length ∧ M.length ≤ 64
section
variable {w W W' : World} {g : Nat} {M : List BE}
theorem FS.keep (h : FS w W g M) (hf : Fr (fun _ => False) W W') : FS w W' g M := by
  obtain ⟨⟨TS, L, h1, h2, h3⟩, h4, h5, h6⟩ := h
  exact ⟨⟨TS, L, h1.fr hf (fun _ _ e => e), h2, h3⟩, h4.trans hf, h5, h6⟩
theorem FS.lt (h : FS w W g M) : w.heap.size ≤ g ∧ g < W.heap.size := by
  obtain ⟨⟨TS, L, h1, h2, h3⟩, h4, h5, h6⟩ := h
  exact ⟨h3 g h1.own, h1.lt g h1.own⟩
theorem map_len {L : List BV} (h : L.map BV.e = M) : L.length = M.length := by rw [← h, List.length_map]
theorem FS.fl (h : FS w W g M) : ∃ L, Fl W g L ∧ L.map BV.e = M ∧ 0 < L.length ∧ L.length ≤ 64 := by
  obtain ⟨⟨TS, L, h1, h2, h3⟩, h4, h5, h6⟩ := h
  exact ⟨L, h1.fl, h2, by rw [map_len h2]; exact h6.1, by rw [map_len h2]; exact h6.2⟩
theorem FS.put {s : Str} {n : Int} {M' : List BE} {r : Int} {out : List PV} (h : FS w W g M) (hm : mayF s n = 0) (hF : putF M s n = (M', r, out)) (hok : ∀ x ∈ M', BEok x) (hlen : M'.length = M.length) : Calls Tryz.prog 19 #[.pointer (some ⟨g, 0, none⟩), vS s, .int .i64 n] W fun e W' =>
    (0 < r ∧ e = .returned (.tuple #[.slice none 0 0, .int .i64 2]) ∧ FS w W' g M ∧ Fr (fun _ => False) W W') ∨
    (r ≤ 0 ∧ ∃ v, e = .returned (.tuple #[v, .int .i64 0]) ∧ Pl W' v out ∧ (∀ b, v.ownBlock = some b → W.heap.size ≤ b) ∧ FS w W' g M' ∧ Fr (fun c => c = g) W W') := by
  have hk := h
  obtain ⟨⟨TS, L, h1, h2, h3⟩, h4, h5, h6⟩ := h
  have hl := map_len h2
  refine (bPut W g TS L s n h1 (by rw [h2]; exact h5) (by omega) (by omega) hm).mono ?_
  intro e W' hP
  rw [h2, hF] at hP
  rcases hP with ⟨p1, p2, p3⟩ | ⟨p1, v, L', TS', p2, p3, p4, p5, p6, p7, p8⟩
  · exact .inl ⟨p1, p2, hk.keep p3, p3⟩
  · have hg := h3 g h1.own
    exact .inr ⟨p1, v, p2, p3, p4, ⟨⟨TS', L', p5, p6, fun b hb => (p8 b hb).elim (h3 b) (fun e => Nat.le_trans h4.size e)⟩, h4.trans' p7 (fun b hb e => by have e : b = g := e; omega), hok, by rw [hlen]; exact h6⟩, p7⟩
theorem FS.take {s : Str} {n : Int} {M' : List BE} {r : Int} {out : List PV} (h : FS w W g M) (hm : mayF s n = 0) (hF : takeF M s n = (M', r, out)) (hok : ∀ x ∈ M', BEok x) (hlen : M'.length = M.length) : Calls Tryz.prog 21 #[.pointer (some ⟨g, 0, none⟩), vS s, .int .i64 n] W fun e W' =>
    (0 < r ∧ e = .returned (.tuple #[.slice none 0 0, .int .i64 51]) ∧ FS w W' g M ∧ Fr (fun _ => False) W W') ∨
    (r ≤ 0 ∧ ∃ v, e = .returned (.tuple #[v, .int .i64 0]) ∧ Pl W' v out ∧ (∀ b, v.ownBlock = some b → W.heap.size ≤ b) ∧ FS w W' g M' ∧ Fr (fun c => c = g) W W') := by
  have hk := h
  obtain ⟨⟨TS, L, h1, h2, h3⟩, h4, h5, h6⟩ := h
  have hl := map_len h2
  refine (bTake W g TS L s n h1 (by rw [h2]; exact h5) (by omega) (by omega) hm).mono ?_
  intro e W' hP
  rw [h2, hF] at hP
  rcases hP with ⟨p1, p2, p3⟩ | ⟨p1, v, L', TS', p2, p3, p4, p5, p6, p7, p8⟩
  · exact .inl ⟨p1, p2, hk.keep p3, p3⟩
  · have hg := h3 g h1.own
    exact .inr ⟨p1, v, p2, p3, p4, ⟨⟨TS', L', p5, p6, fun b hb => (p8 b hb).elim (h3 b) (fun e => Nat.le_trans h4.size e)⟩, h4.trans' p7 (fun b hb e => by have e : b = g := e; omega), hok, by rw [hlen]; exact h6⟩, p7⟩
theorem FS.put_full {s : Str} {n : Int} (h : FS w W g M) (hm : mayF s n = 0) (hF : 0 < (putF M s n).2.1) : Calls Tryz.prog 19 #[.pointer (some ⟨g, 0, none⟩), vS s, .int .i64 n] W fun e W' => e = .returned (.tuple #[.slice none 0 0, .int .i64 2]) ∧ Fr (fun _ => False) W W' := by
  obtain ⟨⟨TS, L, h1, h2, h3⟩, h4, h5, h6⟩ := h
  have hl := map_len h2
  refine (bPut W g TS L s n h1 (by rw [h2]; exact h5) (by omega) (by omega) hm).mono ?_
  intro e W' hP
  rw [h2] at hP
  rcases hP with ⟨p1, p2, p3⟩ | ⟨p1, -⟩
  · exact ⟨p2, p3⟩
  · omega
theorem FS.take_less {s : Str} {n : Int} (h : FS w W g M) (hm : mayF s n = 0) (hF : 0 < (takeF M s n).2.1) : Calls Tryz.prog 21 #[.pointer (some ⟨g, 0, none⟩), vS s, .int .i64 n] W fun e W' => e = .returned (.tuple #[.slice none 0 0, .int .i64 51]) ∧ Fr (fun _ => False) W W' := by
  obtain ⟨⟨TS, L, h1, h2, h3⟩, h4, h5, h6⟩ := h
  have hl := map_len h2
  refine (bTake W g TS L s n h1 (by rw [h2]; exact h5) (by omega) (by omega) hm).mono ?_
  intro e W' hP
  rw [h2] at hP
  rcases hP with ⟨p1, p2, p3⟩ | ⟨p1, -⟩
  · exact ⟨p2, p3⟩
  · omega
theorem FS.of (h : FS w W g M) (s : Str) : Calls Tryz.prog 20 #[.pointer (some ⟨g, 0, none⟩), vS s] W fun e W' => e = .returned (.int .i64 (sumE M s)) ∧ Fr (fun _ => False) W W' := by
  obtain ⟨L, h1, h2, h3, -⟩ := h.fl
  have := bOfAll W g L s h1 h3
  rw [sumE_e, h2] at this
  exact this
theorem FS.left (h : FS w W g M) (n : Int) : Calls Tryz.prog 34 #[.pointer (some ⟨g, 0, none⟩), .int .i64 n] W fun e W' => e = .returned (.int .i64 (leftNE M n)) ∧ Fr (fun _ => False) W W' := by
  obtain ⟨L, h1, h2, h3, -⟩ := h.fl
  have := bLeftN W g L n h1 h3
  rw [leftNE_e, h2] at this
  exact this
theorem FS.way (h : FS w W g M) {v : Value} {l : List PV} (hp : Pl W v l) (hl : l.length ≤ 100000000) : Calls Tryz.prog 16 #[.pointer (some ⟨g, 0, none⟩), v] W fun e W' => e = .returned (.int .i64 (wayE M l)) ∧ Fr (fun _ => False) W W' := by
  obtain ⟨L, h1, h2, h3, -⟩ := h.fl
  have := bWay W g v L l h1 h3 (by rw [h2]; exact h.ok) hp hl
  rw [h2] at this
  exact this
theorem FS.route (h : FS w W g M) {v : Value} {l : List PV} (hp : Pl W v l) (hl : l.length ≤ 100000000) : Calls Tryz.prog 13 #[.pointer (some ⟨g, 0, none⟩), v] W fun e W' => ∃ v', e = .returned v' ∧ Pl W' v' (routeE M l) ∧ (∀ c, v'.ownBlock = some c → W.heap.size ≤ c) ∧ Fr (fun _ => False) W W' := by
  obtain ⟨L, h1, h2, h3, -⟩ := h.fl
  have := bRouteF W g v L l h1 h3 hp (by omega)
  rw [h2] at this
  exact this
theorem FS.pack (h : FS w W g M) : Calls Tryz.prog 25 #[.pointer (some ⟨g, 0, none⟩)] W fun e W' => ∃ v, e = .returned v ∧ Bs W' v (packE M) ∧ (∀ b, v.ownBlock = some b → W.heap.size ≤ b) ∧ Fr (fun _ => False) W W' := by
  obtain ⟨L, h1, h2, h3, h4⟩ := h.fl
  refine (bPack W g L h1 h3 h4 (by rw [h2]; exact h.ok)).mono ?_
  rintro e W' ⟨v, rfl, ho, hf⟩
  rw [h2] at ho
  have := Bs.own ho (packE_byt (by have := h.len; omega) h.ok)
  exact ⟨v, rfl, this.1, fun b hb => this.2 b hb, hf⟩
end
set_option maxRecDepth 100000 in
set_option maxHeartbeats 8000000 in
theorem lLives (w : World) : Calls Tryz.prog 10 #[] w fun e w' => e = .returned (.bool true) ∧ Fr (fun _ => False) w w' := by
  have hS : Sbi (w.alloc (.cells #[.int .i64 1, .int .i64 0, .int .i64 5, .int .i64 2, .int .i64 1, .int .i64 3] 36)) (.slice (some ⟨w.heap.size, 0, none⟩) 2 2) [⟨1, 0, 5⟩, ⟨2, 1, 3⟩] := sbi_new (n := 2) rfl (by decide) (by intro b hb; simp only [List.mem_cons, List.not_mem_nil, or_false] at hb; rcases hb with rfl | rfl <;> (unfold okI; dsimp only; omega))
  have HS := Lib.hid hS
  have hnil := fun (w : World) (f : Fn) (x y : Array Value) => run_eql_func_nil (P := Tryz.prog) w 60 _ _ _ f x y Tryz.underlying60
  clear hS
  go_enter Tryz.func10, Tryz.ntmps10
  go_wp2_with fail
  refine (bNew _ _ _ HS.out).mono ?_
  rintro e w1 ⟨hf1, ⟨hm, -⟩ | ⟨-, g, TS, L, rfl, hFA, hLm, hTS⟩⟩
  · rw [lvB] at hm; cases hm
  have hf1' : Fr (fun _ => False) w w1 := ((Fr.refl _ w).alloc _).trans hf1
  have H0 : Hid (FS w w1 g lv0) := Lib.hid ⟨⟨TS, L, hFA, hLm, fun b hb => by have := hTS b hb; simp at this; omega⟩, hf1', lv0k, by decide⟩
  clear hf1 hf1' hFA hLm hTS HS
  go_wp2_with (go_at_call 30; refine (bBins _ _).mono ?_; rintro e w2 ⟨rfl, rfl⟩)
  have H0 := Lib.hid (H0.out.keep ((Fr.refl _ w1).alloc (.cells #[.pointer (some ⟨g, 0, none⟩)] 25)))
  refine (H0.out.put (s := [97]) (n := 2) lvM2 lvP1 lv1k rfl).mono ?_
  rintro e w2 (⟨h, -⟩ | ⟨-, v1, rfl, hp1, ho1, h1, hf1⟩)
  · omega
  obtain ⟨a1, c1, rfl⟩ := hp1.sl
  have H1 := Lib.hid h1
  clear hp1 ho1 h1 hf1
  dsimp only [List.length_cons, List.length_nil]
  go_wp2_with fail
  refine (H1.out.put (s := [97]) (n := 5) lvM5 lvP2 lv2k rfl).mono ?_
  rintro e w3 (⟨h, -⟩ | ⟨-, v2, rfl, hp2, ho2, h2, hf2⟩)
  · omega
  obtain ⟨a2, c2, rfl⟩ := hp2.sl
  have hg2 := H1.out.lt
  have HP2 := Lib.hid hp2; have H2 := Lib.hid h2
  have HO2 : Hid (∀ b, (Value.slice a2 [PV.mk 1 [97] 3, PV.mk 2 [97] 2].length c2).ownBlock = some b → ¬ (fun c => c = g) b) := Lib.hid (fun b hb e => by have e : b = g := e; have := ho2 b hb; omega)
  clear hp2 ho2 h2 hf2 hg2
  dsimp only [List.length_cons, List.length_nil] at HP2 HO2 ⊢
  go_wp2_with fail
  refine (H2.out.put_full (s := [97]) (n := 2) lvM2 (by rw [lvP3]; decide)).mono ?_
  rintro e w4 ⟨rfl, hf4⟩
  have H3 := Lib.hid (H2.out.keep hf4)
  have HP3 := Lib.hid (HP2.out.fr0 okPvKeeps hf4)
  clear hf4
  go_wp2_with fail
  refine (H3.out.take (s := [97]) (n := 3) lvM3 lvT lv3k rfl).mono ?_
  rintro e w5 (⟨h, -⟩ | ⟨-, v4, rfl, hp4, ho4, h4, hf4⟩)
  · omega
  obtain ⟨a4, c4, rfl⟩ := hp4.sl
  have H4 := Lib.hid h4
  have HP4 := Lib.hid hp4
  have HP2 := Lib.hid (Pl.keep HP3.out hf4 HO2.out)
  clear hp4 ho4 h4 hf4
  dsimp only [List.length_cons, List.length_nil] at HP4 ⊢
  go_wp2_with fail
  refine H4.out.pack.mono ?_
  rintro e w6 ⟨v6, rfl, hb6, -, hf6⟩
  have HB6 := Lib.hid hb6
  have H5 := Lib.hid (H4.out.keep hf6)
  have HP4 := Lib.hid (HP4.out.fr0 okPvKeeps hf6)
  have HP2 := Lib.hid (HP2.out.fr0 okPvKeeps hf6)
  clear hb6 hf6
  go_wp2_with fail
  refine (bUnpack w6 v6 (packE lv3) HB6.out (by decide) (packE_byt (by decide) lv3k)).mono ?_
  rintro e w7 ⟨hf7, hZ⟩
  rw [lvU] at hZ
  obtain ⟨g7, TS7, L7, rfl, -⟩ := hZ
  have H6 := Lib.hid (H5.out.keep hf7)
  have HP4 := Lib.hid (HP4.out.fr0 okPvKeeps hf7)
  have HP2 := Lib.hid (HP2.out.fr0 okPvKeeps hf7)
  clear hf7
  obtain ⟨ad2, rfl, -, y0, ys⟩ := HP2.out.at_ (i := 1) (r := ⟨2, [97], 2⟩) rfl
  have y0 := y0 (.int .i64 2) rfl; have y1 := ys 0 (vS [97]) rfl; have y2 := ys 1 (.int .i64 2) rfl
  obtain ⟨ad4, rfl, -, z0, -⟩ := HP4.out.at_ (i := 0) (r := ⟨2, [97], 2⟩) rfl
  have z0 := z0 (.int .i64 2) rfl
  have heq := fun W => eql_place W 2 2 [97]
  clear ys
  dsimp only [Nat.reduceMul, Nat.zero_add, Nat.reduceAdd] at y0 y1 y2 z0
  have e3 : ad2.add 3 = ⟨ad2.block, ad2.off + 3, none⟩ := by unfold Addr.add; simp
  have e0 : ad4.add 0 = ad4 := by unfold Addr.add; simp
  rw [e3] at y0 y1 y2
  rw [e0] at z0
  clear e3 e0
  dsimp only [vS] at y1 heq
  go_wp2_with fail
  refine (H6.out.of [97]).mono ?_
  rw [lvO]
  rintro e w8 ⟨rfl, hf8⟩
  have H7 := Lib.hid (H6.out.keep hf8)
  have HP2 := Lib.hid (HP2.out.fr0 okPvKeeps hf8)
  clear hf8
  go_wp2_with fail
  refine (H7.out.left 1).mono ?_
  rw [lvL]
  rintro e w9 ⟨rfl, hf9⟩
  have H8 := Lib.hid (H7.out.keep hf9)
  have HP2 := Lib.hid (HP2.out.fr0 okPvKeeps hf9)
  clear hf9
  go_wp2_with fail
  refine (H8.out.way HP2.out (by decide)).mono ?_
  rw [lvW]
  rintro e w10 ⟨rfl, hf10⟩
  have HF10 := Lib.hid (H8.out.fr.trans hf10)
  clear hf10
  go_wp2_with fail
  go_ret
  exact ⟨rfl, HF10.out⟩
end Go.Proofs.YtlniekobijcanaaGreat
namespace Go.Proofs.YtlniekobijcanaaGreat
open Go.RowKit Go.Maps
theorem setF_len {L : Its} {s : Str} {n : Int} : (setF L s n).length = (L.filter fun p => !decide (p.1 = s)).length + (if 0 < n then 1 else 0) := by
  rw [(setF_perm L s n).length_eq, List.length_append]
  split <;> rfl
theorem filt_len {L : Its} {s : Str} (h : ∃ p ∈ L, p.1 = s) : (L.filter fun p => !decide (p.1 = s)).length + 1 ≤ L.length := by
  obtain ⟨p, hp, rfl⟩ := h
  have h1 : (L.filter fun q => !decide (q.1 = p.1)).length < L.length := by
    refine List.length_filter_lt_length_iff_exists.2 ⟨p, hp, by simp⟩
  omega
theorem ofF_has {L : Its} {s : Str} (h : 0 < getI L s) : ∃ p ∈ L, p.1 = s := by
  by_cases hn : ∃ p ∈ L, p.1 = s
  · exact hn
  · exfalso
    have h0 : getI L s = 0 := by
      unfold getI
      have : L.filter (fun p => decide (p.1 = s)) = [] := List.filter_eq_nil_iff.2 (fun p hp => by simp; exact fun e => hn ⟨p, hp, e⟩)
      rw [this]; rfl
    omega
theorem beok_set {b : BE} {s : Str} {m : Int} (h : BEok b) (hg : goodB s = true) (h0 : 0 ≤ m) (hl : m = 0 ∨ (b.its.filter fun p => !decide (p.1 = s)).length + 1 ≤ 16) (ht : sumI b.its - getI b.its s + m ≤ b.ro) : BEok (b.put s m) := by
  have hw := (h.bw s).put hg h0 ht
  refine ⟨h.nu, h.zo, h.ro, ?_, hw.tot⟩
  unfold mayL
  rw [Bool.and_eq_true, decide_eq_true_eq]
  refine ⟨itsOk_of hw.ri (fun p hp => good_lt (hw.it p hp).1) (fun p hp => ⟨(hw.it p hp).1, (hw.it p hp).2.1, mayI_iff.2 ⟨by have := (hw.it p hp).2.1; omega, (hw.it p hp).2.2⟩⟩), ?_⟩
  show (setF b.its s m).length ≤ 16
  rw [setF_len]
  have hf := (h.bw s).fl
  split
  · rcases hl with hl | hl <;> omega
  · omega
theorem kind_room {b : BE} {s : Str} (h : BEok b) (hk : kindE b s ≠ 3) : (b.its.filter fun p => !decide (p.1 = s)).length + 1 ≤ 16 := by
  have hl := h.items.1
  unfold kindE at hk
  split at hk
  · rename_i h1
    rw [(h.bw s).of s] at h1
    have := filt_len (ofF_has h1)
    omega
  · have h2 : b.its.length < 16 := by split at hk <;> (try split at hk) <;> omega
    have := List.length_filter_le (fun p : Str × Int => !decide (p.1 = s)) b.its
    omega
theorem beok_put {b : BE} {s : Str} {k : Int} (h : BEok b) (hg : goodB s = true) (hk : kindE b s ≠ 3) (h0 : 0 < k) (h1 : k ≤ leftE b) : BEok (b.put s (ofF b.its s + k)) := by
  have hw := h.bw s
  rw [hw.left] at h1
  rw [hw.of s]
  have := getI_nn s hw.pos
  exact beok_set h hg (by omega) (.inr (kind_room h hk)) (by omega)
theorem beok_take {b : BE} {s : Str} {k : Int} (h : BEok b) (hg : goodB s = true) (h0 : 0 < k) (h1 : k ≤ ofF b.its s) : BEok (b.put s (ofF b.its s - k)) := by
  have hw := h.bw s
  rw [hw.of s] at h1 ⊢
  have h2 := filt_len (ofF_has (L := b.its) (s := s) (by omega))
  have h3 := h.items.1
  have h4 := hw.tot
  exact beok_set h hg (by omega) (.inr (by omega)) (by omega)
/-- What stays of a bin. -/
def binI (b : BE) : BI := ⟨b.nu, b.zo, b.ro⟩
theorem spF_inv (P Q : BE → Prop) (can : BE → Int) (nE : BE → Int → Int) (s : Str) (hstep : ∀ b k, Q b → P b → 0 < k → k ≤ can b → P (b.put s (nE b k))) :
    ∀ (ord : List Int) (M : List BE) (n : Int) (o : List PV), ord.Nodup → (∀ i ∈ ord, 0 ≤ i ∧ ∃ b, M[i.toNat]? = some b ∧ Q b) → (∀ b ∈ M, P b) →
      (∀ b ∈ (ord.foldl (stepS can nE s) (M, n, o)).1, P b) ∧ (ord.foldl (stepS can nE s) (M, n, o)).1.map binI = M.map binI
  | [], M, n, o, _, _, hM => ⟨hM, rfl⟩
  | i :: r, M, n, o, hn, hi, hM => by
    obtain ⟨h0, b, hb, hq⟩ := hi i List.mem_cons_self
    obtain ⟨hn1, hn2⟩ := List.nodup_cons.1 hn
    rw [List.foldl_cons]
    have hs : stepS can nE s (M, n, o) i = if min n (can b) ≤ 0 then (M, n, o) else (M.set i.toNat (b.put s (nE b (min n (can b)))), n - min n (can b), o ++ [⟨b.nu, s, min n (can b)⟩]) := by
      unfold stepS; dsimp only; rw [hb]
    rw [hs]
    by_cases hk : min n (can b) ≤ 0
    · rw [if_pos hk]
      exact spF_inv P Q can nE s hstep r M n o hn2 (fun j hj => hi j (List.mem_cons_of_mem _ hj)) hM
    · rw [if_neg hk]
      have hbM := List.mem_of_getElem? hb
      have := spF_inv P Q can nE s hstep r (M.set i.toNat (b.put s (nE b (min n (can b))))) (n - min n (can b)) (o ++ [⟨b.nu, s, min n (can b)⟩]) hn2 (fun j hj => by
        obtain ⟨k0, c, hc, hq'⟩ := hi j (List.mem_cons_of_mem _ hj)
        have hne : i.toNat ≠ j.toNat := fun e => by
          have e2 : i = j := by omega
          exact hn1 (e2 ▸ hj)
        refine ⟨k0, c, ?_, hq'⟩
        rw [List.getElem?_set_ne hne]
        exact hc) (fun c hc => by
        obtain ⟨q, hq'⟩ := List.getElem?_of_mem hc
        rcases set_get hq' with ⟨-, rfl⟩ | ⟨-, e2⟩
        · exact hstep b _ hq (hM b hbM) (by omega) (by omega)
        · exact hM c (List.mem_of_getElem? e2))
      refine ⟨this.1, this.2.trans ?_⟩
      rw [List.map_set]
      have e : binI (b.put s (nE b (min n (can b)))) = binI b := rfl
      rw [e]
      apply List.ext_getElem?
      intro q
      rw [List.getElem?_set]
      split
      · rename_i hq'
        subst hq'
        rw [List.getElem?_map, hb]
        simp [(List.getElem?_eq_some_iff.1 hb).1]
      · rfl
theorem ordI_nodup {α : Type} (L : List α) (isF : α → Bool) (cf : α → α → Int) : (ordI L isF cf).Nodup := by
  unfold ordI
  refine (stab_perm _ _).nodup_iff.2 ?_
  unfold idxK
  refine List.pairwise_map.2 (List.Pairwise.imp (fun {a b} hne e => hne (Int.ofNat.inj e)) (List.Pairwise.filter _ List.nodup_range))
theorem ordI_is {α : Type} {L : List α} {isF : α → Bool} {cf : α → α → Int} {x : Int} (h : x ∈ ordI L isF cf) : 0 ≤ x ∧ ∃ b, L[x.toNat]? = some b ∧ isF b = true := by
  obtain ⟨i, b, rfl, -, hb, hi⟩ := idxK_mem ((stab_perm _ _).mem_iff.1 h)
  exact ⟨by omega, b, by simpa using hb, hi⟩
theorem putF_inv {M : List BE} {s : Str} {n : Int} (h : ∀ b ∈ M, BEok b) (hg : goodB s = true) : (∀ b ∈ (putF M s n).1, BEok b) ∧ (putF M s n).1.map binI = M.map binI := by
  unfold putF spF
  refine spF_inv BEok (fun b => kindE b s ≠ 3) _ _ s (fun b k hq hp h0 h1 => beok_put hp hg hq h0 h1) _ M n [] (ordI_nodup _ _ _) (fun i hi => ?_) h
  obtain ⟨h0, b, hb, hf⟩ := ordI_is hi
  exact ⟨h0, b, hb, by simpa using hf⟩
theorem takeF_inv {M : List BE} {s : Str} {n : Int} (h : ∀ b ∈ M, BEok b) (hg : goodB s = true) : (∀ b ∈ (takeF M s n).1, BEok b) ∧ (takeF M s n).1.map binI = M.map binI := by
  unfold takeF spF
  refine spF_inv BEok (fun _ => True) _ _ s (fun b k hq hp h0 h1 => beok_take hp hg h0 h1) _ M n [] (ordI_nodup _ _ _) (fun i hi => ?_) h
  obtain ⟨h0, b, hb, hf⟩ := ordI_is hi
  exact ⟨h0, b, hb, trivial⟩
theorem binI_len {M M' : List BE} (h : M'.map binI = M.map binI) : M'.length = M.length := by have := congrArg List.length h; rwa [List.length_map, List.length_map] at this
end Go.Proofs.YtlniekobijcanaaGreat
namespace Go.Proofs.YtlniekobijcanaaGreat
open Go.RowKit Go.Maps
theorem tkRb_or (t : Tst) {m : Int} (hm : 0 ≤ m) : tkR t m = tkT t m ∨ ((tkR t m).2.2 = true ∧ (tkT t m).2.2 = true) := by
  obtain ⟨bs, bad⟩ := t
  unfold tkR tkT tk numT
  dsimp only
  cases bad with
  | true => left; simp
  | false =>
    cases hf : firstB bs with
    | none => left; simp
    | some p =>
      obtain ⟨n, k⟩ := p
      simp only [Bool.false_eq_true, if_false]
      by_cases h1 : n < 0 ∨ m < n
      · rw [if_pos h1, if_pos (show n < 0 ∨ min m (bs.length : Int) < n by omega)]
        left; simp
      · rw [if_neg h1]
        by_cases h2 : (bs.length : Int) < n
        · rw [if_pos (show n < 0 ∨ min m (bs.length : Int) < n by omega)]
          have h3 : ((bs.drop k).length : Int) < n := by rw [List.length_drop]; omega
          right
          simp [h3]
          rw [if_pos (by rw [List.length_drop] at h3; omega)]
        · rw [if_neg (show ¬ (n < 0 ∨ min m (bs.length : Int) < n) by omega)]
          left
          simp
theorem tkRb_len (t : Tst) {m : Int} (hm : 0 ≤ m) : ((tkR t m).1.length : Int) ≤ m := by
  have h := tk_in t (a := 0) (b := min m t.1.length) (Int.le_refl _) (by omega)
  unfold tkR
  dsimp only
  split
  · simpa using hm
  · simp [bS, List.length_take]; omega
theorem tkTb_stay {t : Tst} (h : t.2 = true) (m : Int) : (tkT t m).2.2 = true := by unfold tkT; rw [tk_bad h]; simp [h]
theorem tkb_stay {t : Tst} (h : t.2 = true) (a b : Int) : (tk t a b).2.2 = true := by rw [tk_bad h]; exact h
/-- One item, as the reference takes it; n items; a list. -/
def rit1 (t : Tst) : (Str × Int) × Tst := (((tkR t 16).1, (tk (tkR t 16).2 1 1099511627776).1), (tk (tkR t 16).2 1 1099511627776).2)
def readG : Nat → Tst → Its → Its × Tst
  | 0, t, A => (A, t)
  | n + 1, t, A => if t.2 = true then (A, t) else readG n (rit1 t).2 (A ++ [(rit1 t).1])
def readR (t : Tst) : Its × Tst × Bool :=
  ((readG (tk t 0 16).1.toNat (tk t 0 16).2 []).1, (readG (tk t 0 16).1.toNat (tk t 0 16).2 []).2, !(readG (tk t 0 16).1.toNat (tk t 0 16).2 []).2.2 && mayL (readG (tk t 0 16).1.toNat (tk t 0 16).2 []).1)
def itF : Nat → Tst × Its → Tst × Its
  | 0, s => s
  | n + 1, s => itF n (it1 s)
theorem itF_it1 : ∀ (n : Nat) (s : Tst × Its), it1 (itF n s) = itF n (it1 s)
  | 0, _ => rfl
  | n + 1, s => itF_it1 n (it1 s)
theorem itG_F (t : Tst) : ∀ n, itG t n = itF n (t, [])
  | 0 => rfl
  | n + 1 => by
    show it1 (itG t n) = itF n (it1 (t, []))
    rw [itG_F t n, itF_it1]
theorem it1_stay {s : Tst × Its} (h : s.1.2 = true) : (it1 s).1.2 = true := tkb_stay (tkTb_stay h 16) _ _
theorem itF_stay : ∀ (n : Nat) {s : Tst × Its}, s.1.2 = true → (itF n s).1.2 = true
  | 0, _, h => h
  | n + 1, _, h => itF_stay n (it1_stay h)
theorem readG_bad : ∀ (n : Nat) {t : Tst} (A : Its), t.2 = true → readG n t A = (A, t)
  | 0, _, _, _ => rfl
  | n + 1, t, A, h => by unfold readG; rw [if_pos h]
theorem readG_it : ∀ (n : Nat) (t : Tst) (A : Its), ((readG n t A).2.2 = false → itF n (t, A) = ((readG n t A).2, (readG n t A).1)) ∧ ((readG n t A).2.2 = true → (itF n (t, A)).1.2 = true)
  | 0, t, A => ⟨fun _ => rfl, fun h => h⟩
  | n + 1, t, A => by
    by_cases hb : t.2 = true
    · rw [readG_bad (n + 1) A hb]
      exact ⟨fun h => (by dsimp only at h; rw [hb] at h; cases h), fun _ => itF_stay (n + 1) hb⟩
    · have e : readG (n + 1) t A = readG n (rit1 t).2 (A ++ [(rit1 t).1]) := by
        show (if t.2 = true then (A, t) else readG n (rit1 t).2 (A ++ [(rit1 t).1])) = _
        rw [if_neg hb]
      rw [e]
      show (_ → itF n (it1 (t, A)) = _) ∧ (_ → (itF n (it1 (t, A))).1.2 = true)
      rcases tkRb_or t (m := 16) (by omega) with h1 | ⟨h1, h2⟩
      · have e2 : it1 (t, A) = ((rit1 t).2, A ++ [(rit1 t).1]) := by unfold it1 rit1; dsimp only; rw [h1]
        rw [e2]
        exact readG_it n _ _
      · have hb2 : (rit1 t).2.2 = true := tkb_stay h1 _ _
        rw [readG_bad n _ hb2]
        exact ⟨fun h => (by dsimp only at h; rw [hb2] at h; cases h), fun _ => itF_stay n (tkb_stay h2 _ _)⟩
theorem readR_or (t : Tst) : ((readR t).2.2 = true ∧ itemsT t = ((readR t).1, (readR t).2.1)) ∨ ((readR t).2.2 = false ∧ (itemsT t).2.2 = true) := by
  unfold readR itemsT
  dsimp only
  rw [itG_F]
  obtain ⟨h1, h2⟩ := readG_it (tk t 0 16).1.toNat (tk t 0 16).2 []
  generalize readG (tk t 0 16).1.toNat (tk t 0 16).2 [] = r at *
  generalize itF (tk t 0 16).1.toNat ((tk t 0 16).2, []) = s at *
  cases hb : r.2.2 with
  | true =>
    right
    refine ⟨by simp, ?_⟩
    split
    · exact h2 hb
    · rfl
  | false =>
    have e := h1 hb
    rw [e]
    dsimp only
    cases hm : mayL r.1 with
    | true => left; simp
    | false => right; simp
theorem readG_len : ∀ (n : Nat) (t : Tst) (A : Its), (readG n t A).1.length ≤ A.length + n
  | 0, t, A => Nat.le_refl _
  | n + 1, t, A => by
    unfold readG
    split
    · dsimp only; omega
    · have := readG_len n (rit1 t).2 (A ++ [(rit1 t).1])
      rw [List.length_append, List.length_singleton] at this
      omega
/-- n bins, as the reference takes them; a floor. -/
def rrow (t : Tst) : BI × Its × Tst × Bool :=
  (⟨(tk t 1 4096).1, (tk (tk t 1 4096).2 0 15).1, (tk (tk (tk t 1 4096).2 0 15).2 1 1099511627776).1⟩, (readR (tk (tk (tk t 1 4096).2 0 15).2 1 1099511627776).2).1, (readR (tk (tk (tk t 1 4096).2 0 15).2 1 1099511627776).2).2.1, (readR (tk (tk (tk t 1 4096).2 0 15).2 1 1099511627776).2).2.2)
def unpF : Nat → Tst → List BE → Option (List BE × Tst)
  | 0, t, M => some (M, t)
  | n + 1, t, M => if t.2 = true then some (M, t) else if (rrow t).2.2.2 = false then none else if leftE (putI (rrow t).1 (rrow t).2.1) < 0 then none else unpF n (rrow t).2.2.1 (M ++ [putI (rrow t).1 (rrow t).2.1])
def unpEnd (z : Option (List BE × Tst)) : Option (List BE) := match z with
  | none => none
  | some (M, t) => if t.2 = false ∧ t.1.length = 0 ∧ mayBs (M.map binI) = true then some M else none
def unpackR (bs : List Int) : Option (List BE) := unpEnd (unpF (tk (bs, false) 1 64).1.toNat (tk (bs, false) 1 64).2 [])
def unF : Nat → Tst × List BI × List Its → Tst × List BI × List Its
  | 0, s => s
  | n + 1, s => unF n (un1 s)
theorem unF_un1 : ∀ (n : Nat) (s : Tst × List BI × List Its), un1 (unF n s) = unF n (un1 s)
  | 0, _ => rfl
  | n + 1, s => unF_un1 n (un1 s)
theorem unG_F (t : Tst) : ∀ n, unG t n = unF n (t, [], [])
  | 0 => rfl
  | n + 1 => by
    show un1 (unG t n) = unF n (un1 (t, [], []))
    rw [unG_F t n, unF_un1]
theorem itemsT_stay {t : Tst} (h : t.2 = true) : (itemsT t).2.2 = true := by
  unfold itemsT
  dsimp only
  rw [itG_F]
  split
  · exact itF_stay _ (tkb_stay h 0 16)
  · rfl
theorem un1_stay {s : Tst × List BI × List Its} (h : s.1.2 = true) : (un1 s).1.2 = true := itemsT_stay (tkb_stay (tkb_stay (tkb_stay h _ _) _ _) _ _)
theorem unF_stay : ∀ (n : Nat) {s : Tst × List BI × List Its}, s.1.2 = true → (unF n s).1.2 = true
  | 0, _, h => h
  | n + 1, _, h => unF_stay n (un1_stay h)
theorem unF_app : ∀ (n : Nat) (s : Tst × List BI × List Its), ∃ x y, (unF n s).2.1 = s.2.1 ++ x ∧ (unF n s).2.2 = s.2.2 ++ y ∧ x.length = y.length
  | 0, s => ⟨[], [], by simp [unF], by simp [unF], rfl⟩
  | n + 1, s => by
    obtain ⟨x, y, h1, h2, h3⟩ := unF_app n (un1 s)
    exact ⟨_ :: x, _ :: y, by show (unF n (un1 s)).2.1 = _; rw [h1]; unfold un1; dsimp only; rw [List.append_assoc]; rfl, by show (unF n (un1 s)).2.2 = _; rw [h2]; unfold un1; dsimp only; rw [List.append_assoc]; rfl, by simp [h3]⟩
theorem zip_snoc {B : List BI} {I : List Its} (h : B.length = I.length) (b : BI) (i : Its) : List.zipWith putI (B ++ [b]) (I ++ [i]) = List.zipWith putI B I ++ [putI b i] := by
  rw [List.zipWith_append h]
  rfl
theorem zip_binI : ∀ {B : List BI} {I : List Its}, B.length = I.length → (List.zipWith putI B I).map binI = B
  | [], _, _ => rfl
  | b :: r, [], h => by cases h
  | b :: r, i :: j, h => by
    rw [List.zipWith_cons_cons, List.map_cons, zip_binI (by simpa using h)]
    rfl
/-- What bins takes then. -/
def fitsU (s : Tst × List BI × List Its) : Option (List BE) :=
  if mayBs s.2.1 = true ∧ doneT s.1.1 s.1.2 = 0 ∧ ((List.zipWith putI s.2.1 s.2.2).all fun b => decide (0 ≤ leftE b)) = true then some (List.zipWith putI s.2.1 s.2.2) else none
theorem doneT_iff (bs : List Int) (bad : Bool) : doneT bs bad = 0 ↔ bad = false ∧ bs.length = 0 := by
  unfold doneT
  cases bad with
  | true => simp
  | false => simp
theorem fitsU_bad {s : Tst × List BI × List Its} (h : s.1.2 = true) : fitsU s = none := by
  unfold fitsU
  rw [if_neg]
  rintro ⟨-, h2, -⟩
  rw [doneT_iff, h] at h2
  cases h2.1
theorem unp_eq : ∀ (n : Nat) (t : Tst) (B : List BI) (I : List Its), B.length = I.length → (∀ b ∈ List.zipWith putI B I, 0 ≤ leftE b) → unpEnd (unpF n t (List.zipWith putI B I)) = fitsU (unF n (t, B, I))
  | 0, t, B, I, hl, hp => by
    show (if t.2 = false ∧ t.1.length = 0 ∧ mayBs ((List.zipWith putI B I).map binI) = true then some (List.zipWith putI B I) else none) = fitsU (t, B, I)
    rw [zip_binI hl]
    unfold fitsU
    dsimp only
    have ha : ((List.zipWith putI B I).all fun b => decide (0 ≤ leftE b)) = true := List.all_eq_true.2 (fun b hb => decide_eq_true (hp b hb))
    rw [ha]
    by_cases e : t.2 = false ∧ t.1.length = 0 ∧ mayBs B = true
    · rw [if_pos e, if_pos ⟨e.2.2, (doneT_iff _ _).2 ⟨e.1, e.2.1⟩, rfl⟩]
    · rw [if_neg e, if_neg (fun h => e ⟨((doneT_iff _ _).1 h.2.1).1, ((doneT_iff _ _).1 h.2.1).2, h.1⟩)]
  | n + 1, t, B, I, hl, hp => by
    by_cases hb : t.2 = true
    · have e1 : unpF (n + 1) t (List.zipWith putI B I) = some (List.zipWith putI B I, t) := by unfold unpF; rw [if_pos hb]
      rw [e1, fitsU_bad (unF_stay (n + 1) hb)]
      show (if t.2 = false ∧ _ then _ else none) = none
      rw [if_neg (fun h => by rw [hb] at h; cases h.1)]
    · have e1 : unpF (n + 1) t (List.zipWith putI B I) = if (rrow t).2.2.2 = false then none else if leftE (putI (rrow t).1 (rrow t).2.1) < 0 then none else unpF n (rrow t).2.2.1 (List.zipWith putI B I ++ [putI (rrow t).1 (rrow t).2.1]) := by
        show (if t.2 = true then _ else _) = _
        rw [if_neg hb]
      rw [e1]
      show _ = fitsU (unF n (un1 (t, B, I)))
      rcases readR_or (tk (tk (tk t 1 4096).2 0 15).2 1 1099511627776).2 with ⟨h1, h2⟩ | ⟨h1, h2⟩
      · have e2 : un1 (t, B, I) = ((rrow t).2.2.1, B ++ [(rrow t).1], I ++ [(rrow t).2.1]) := by
          unfold un1 rrow
          dsimp only
          rw [h2]
        have h1' : (rrow t).2.2.2 = true := h1
        rw [e2, if_neg (by rw [h1']; simp)]
        by_cases hlt : leftE (putI (rrow t).1 (rrow t).2.1) < 0
        · rw [if_pos hlt]
          obtain ⟨x, y, k1, k2, k3⟩ := unF_app n ((rrow t).2.2.1, B ++ [(rrow t).1], I ++ [(rrow t).2.1])
          show none = fitsU _
          unfold fitsU
          rw [if_neg]
          rintro ⟨-, -, h5⟩
          rw [k1, k2] at h5
          dsimp only at h5
          rw [List.zipWith_append (by simp [hl]), zip_snoc hl] at h5
          have := List.all_eq_true.1 h5 (putI (rrow t).1 (rrow t).2.1) (by simp)
          have := of_decide_eq_true this
          omega
        · rw [if_neg hlt, ← zip_snoc hl]
          exact unp_eq n _ _ _ (by simp [hl]) (fun b hb' => by
            rw [zip_snoc hl] at hb'
            rcases List.mem_append.1 hb' with h | h
            · exact hp b h
            · rw [List.mem_singleton.1 h]; omega)
      · have h1' : (rrow t).2.2.2 = false := h1
        rw [if_pos h1']
        have : (un1 (t, B, I)).1.2 = true := h2
        rw [fitsU_bad (unF_stay n this)]
        rfl
theorem unpackR_eq (bs : List Int) : unpackR bs = unpackE bs := by
  unfold unpackR
  have := unp_eq (tk (bs, false) 1 64).1.toNat (tk (bs, false) 1 64).2 [] [] rfl (fun b hb => by cases hb)
  rw [show List.zipWith putI ([] : List BI) [] = [] from rfl] at this
  rw [this, ← unG_F]
  rfl
end Go.Proofs.YtlniekobijcanaaGreat
namespace Go.Proofs.YtlniekobijcanaaGreat
open Go.RowKit Go.Maps
/-- The reference's floor at g: these rows. -/
def Rl (W : World) (g : Nat) (L : List BV) : Prop := ∃ a c, W.heap[g]? = some (.cells #[.slice a L.length c] 85) ∧ Bl W (.slice a L.length c) L
theorem Rl.keep {W W' : World} {g : Nat} {L : List BV} (h : Rl W g L) (hf : Fr (fun _ => False) W W') : Rl W' g L := by
  obtain ⟨a, c, h1, h2⟩ := h
  exact ⟨a, c, hf.at_ h1 (fun e => e), h2.fr0 bokKeeps hf⟩
/-- The reference's floor, and the blocks that it owns. -/
structure RA (w : World) (g : Nat) (TS : Nat → Prop) (L : List BV) : Prop where
  ex : ∃ r cap cur, w.heap[g]? = some (.cells #[.slice (some ⟨r, 0, none⟩) L.length cap] 85) ∧ w.heap[r]? = some (.cells cur 82) ∧ L.length ≤ cap ∧ cap ≤ maxLen ∧ cur.size = cap * 4 ∧ cur.toList.take (L.length * 4) = flat BV.cs L ∧ TS r ∧ r ≠ g ∧
    ∀ b ∈ L, BOk w b ∧ (b.its ≠ [] → ∀ c, b.l.ownBlock = some c → TS c ∧ c ≠ g ∧ c ≠ r)
  own : TS g
  lt : ∀ b, TS b → b < w.heap.size
theorem RA.fr {S TS : Nat → Prop} {w w' : World} {g : Nat} {L : List BV} (h : RA w g TS L) (hf : Fr S w w') (hS : ∀ b, TS b → ¬ S b) : RA w' g TS L := by
  obtain ⟨⟨r, cap, cur, h1, h2, h3, h4, h5, h6, h7, h8, h9⟩, ho, hl⟩ := h
  exact ⟨⟨r, cap, cur, hf.at_ h1 (hS _ ho), hf.at_ h2 (hS _ h7), h3, h4, h5, h6, h7, h8, fun b hb => ⟨(h9 b hb).1.keep hf (fun hne c hc => hS _ ((h9 b hb).2 hne c hc).1), (h9 b hb).2⟩⟩, ho, fun b hb => Nat.lt_of_lt_of_le (hl b hb) hf.size⟩
theorem RA.row {TS : Nat → Prop} {w : World} {g : Nat} {L : List BV} (h : RA w g TS L) : ∃ r cap, w.heap[g]? = some (.cells #[.slice (some ⟨r, 0, none⟩) L.length cap] 85) ∧ w.ownsRow 0 82 4 (.slice (some ⟨r, 0, none⟩) L.length cap) L.length (flat BV.cs L) ∧ Bl w (.slice (some ⟨r, 0, none⟩) L.length cap) L := by
  obtain ⟨⟨r, cap, cur, h1, h2, h3, h4, h5, h6, h7, h8, h9⟩, ho, hl⟩ := h
  have hr : w.ownsRow 0 82 4 (.slice (some ⟨r, 0, none⟩) L.length cap) L.length (flat BV.cs L) := ⟨flat_len1 bvSize L, .inr ⟨r, cap, cur, rfl, Nat.zero_le _, h2, h3, h4, h5, h6⟩⟩
  exact ⟨r, cap, h1, hr, Sq.own bvSize hr (fun b hb => (h9 b hb).1)⟩
theorem RA.rl {TS : Nat → Prop} {w : World} {g : Nat} {L : List BV} (h : RA w g TS L) : Rl w g L := by
  obtain ⟨r, cap, h1, _, h3⟩ := h.row
  exact ⟨_, cap, h1, h3⟩
set_option maxRecDepth 100000 in
set_option maxHeartbeats 4000000 in
theorem rFind (w : World) (g : Nat) (L : List BV) (n : Int) (h : Rl w g L) : Calls Tryz.prog 42 #[.pointer (some ⟨g, 0, none⟩), .int .i64 n] w fun e w' => e = .returned (.int .i64 (findF L n)) ∧ Fr (fun _ => False) w w' := by
  obtain ⟨a, c, q1, q2⟩ := h
  have hNI := q2.len
  obtain ⟨N, hN⟩ : ∃ N, L.length = N := ⟨_, rfl⟩
  have HN := Lib.hid hN
  rw [hN] at q1 q2 hNI
  have c0 := cell_obj q1 0 (.slice a N c) rfl
  have HQ1 := Lib.hid q1; have HQ2 := Lib.hid q2
  obtain ⟨R, hR⟩ : ∃ R, findF L n = R := ⟨_, rfl⟩
  rw [hR]
  have HR := Lib.hid hR
  clear q1 q2 hN hR
  go_enter Tryz.func42, Tryz.ntmps42
  go_wp2_with fail
  go_loopw [5] (fun vi wr => ∃ j : Nat, j ≤ N ∧ vi = .int .i64 j ∧ Fr (fun _ => False) w wr ∧ ∀ q x, q < j → L[q]? = some x → decide (x.nu = n) = false) (fun vi _ => N - (intOf vi).toNat)
  case atStart => exact ⟨0, Nat.zero_le _, rfl, Fr.refl _ _, fun q x hq => by omega⟩
  case round =>
    obtain ⟨j, hj, rfl, hfr, hno⟩ := hrel
    have HFR := Lib.hid hfr; have HNO := Lib.hid hno
    have d0 := hfr.cell c0 (fun e => e)
    by_cases hlt : j < N
    · obtain ⟨x, hx⟩ : ∃ x, L[j]? = some x := ⟨L[j]'(by rw [HN.out]; exact hlt), List.getElem?_eq_getElem _⟩
      obtain ⟨ad, rfl, hok, z0, zs⟩ := (HQ2.out.fr0 bokKeeps hfr).at_ hx
      have hkI : (j : Int) < N := by omega
      have x0 := z0 (.int .i64 x.nu) rfl
      have HX := Lib.hid hx
      by_cases e : x.nu = n
      · have b1 : (x.nu == n) = true := by simpa using e
        have hr : Hid (R = (j : Int)) := Lib.hid (by rw [← HR.out]; exact idxOf_at hx (by simpa using e) hno)
        clear hx hok z0 zs hfr hno e c0
        go_wp2_with fail
        go_ret
        exact ⟨by rw [hr.out]; rfl, HFR.out⟩
      · have b1 : (x.nu == n) = false := by simpa using e
        have hnx : Hid (∀ q y, q < j + 1 → L[q]? = some y → decide (y.nu = n) = false) := Lib.hid (fun q y hq hy => by
          by_cases e2 : q = j
          · subst e2; rw [hx] at hy; injection hy with hy; rw [← hy]; exact decide_eq_false e
          · exact hno q y (by omega) hy)
        clear hx hok z0 zs hfr hno e
        go_wp2_with fail
        go_roundw
        case rel => exact ⟨j + 1, by omega, by go_num, HFR.out, hnx.out⟩
        case measure => simp [intOf]; omega
    · obtain rfl : j = N := by omega
      have hkI : ¬ (j : Int) < j := by omega
      have hr : Hid (R = -1) := Lib.hid (by rw [← HR.out]; exact idxOf_no (fun q y hy => hno q y (by have := (List.getElem?_eq_some_iff.1 hy).1; rw [HN.out] at this; exact this) hy))
      clear hfr hno c0
      go_wp2_with fail
      go_ret
      exact ⟨by rw [hr.out]; rfl, HFR.out⟩
end Go.Proofs.YtlniekobijcanaaGreat
namespace Go.Proofs.YtlniekobijcanaaGreat
open Go.RowKit Go.Maps
theorem r5May (w : World) (n : Int) : Calls Tryz.prog 120 #[.int .i64 n] w fun e w' => e = .returned (.bool (mayI n)) ∧ w = w' := by
  unfold mayI
  by_cases h1 : 0 ≤ n <;> by_cases h2 : n ≤ 1099511627776
  all_goals
    simp only [h1, h2, decide_true, decide_false, Bool.and_true, Bool.and_false]
    go_enter Tryz.func120, Tryz.ntmps120
    go_wp2
    go_ret
    exact ⟨rfl, rfl⟩
set_option maxRecDepth 100000 in
set_option maxHeartbeats 4000000 in
theorem r6Good (w : World) (s : Str) (hs : okS s) : Calls Tryz.prog 18 #[vS s] w fun e w' => e = .returned (.bool (goodB s)) ∧ w = w' := by
  obtain ⟨G, hG⟩ : ∃ G, goodB s = G := ⟨_, rfl⟩
  rw [hG]
  have HG := Lib.hid hG
  obtain ⟨B, hB⟩ : ∃ B, ByteArray.mk s.toArray = B := ⟨_, rfl⟩
  have hsz : B.size = s.length := by rw [← hB]; simp [ByteArray.size]
  have hge : ∀ k (h : k < B.size) (h' : k < s.length), B[k]'h = s[k]'h' := by subst hB; exact fun k h h' => rfl
  have HSZ := Lib.hid hsz; have HGE := Lib.hid hge; have HBB := Lib.hid hB
  have hs : (s.length : Int) ≤ 9223372036854775807 := by unfold okS maxLen at hs; omega
  rw [← hsz] at hs
  unfold vS
  rw [hB]
  clear hG hB hsz hge
  go_enter Tryz.func18, Tryz.ntmps18
  go_wp2_with fail
  go_loopw [3] (fun i wr => ∃ k : Nat, k ≤ B.size ∧ i = .int .i64 k ∧ wr = w ∧ ∀ j (h : j < s.length), j < k → goodC s[j] = true) (fun i _ => B.size - (intOf i).toNat)
  case atStart => exact ⟨0, Nat.zero_le _, rfl, rfl, fun j _ hj => by omega⟩
  case round =>
    obtain ⟨k, hk, rfl, rfl, hall⟩ := hrel
    have HA := Lib.hid hall
    clear hall
    by_cases hp : k < B.size
    · have hkl : k < s.length := by rw [← HSZ.out]; exact hp
      have hc := HGE.out k hp hkl
      have hpI : (k : Int) < B.size := by omega
      obtain ⟨x, hx⟩ : ∃ x : Nat, (B[k]'hp).toNat = x := ⟨_, rfl⟩
      have hix : ∀ W : World, (Instr.index 9 (.string B) (.int .i64 k)).run Tryz.prog W = .ok (.int .u8 (x : Int)) W := fun W => by
        rw [run_index_string W 9 B .i64 k Tryz.underlying9, dif_pos (by omega)]
        simp only [Int.toNat_natCast, hx]
      have hno : Hid (goodC s[k] = false → G = false) := Lib.hid (fun h => by rw [← HG.out]; exact goodB_bad hkl h)
      have hgc : Hid (goodC s[k] = ((decide (97 ≤ x) && decide (x ≤ 122)) || (decide (48 ≤ x) && decide (x ≤ 57)) || decide (x = 45))) := Lib.hid (by rw [← hx, hc]; rfl)
      have hstep : Hid (goodC s[k] = true → ∀ j (h : j < s.length), j < k + 1 → goodC s[j] = true) := Lib.hid (fun hg j h hj => by
          by_cases e : j = k
          · subst e; exact hg
          · exact HA.out j h (by omega))
      clear hc hx
      rcases (by omega : (97 ≤ x ∧ x ≤ 122) ∨ x < 48 ∧ x ≠ 45 ∨ x = 45 ∨ (48 ≤ x ∧ x ≤ 57) ∨ (57 < x ∧ x < 97) ∨ 122 < x) with h | h | h | h | h | h
      · have hy := Lib.hid (hstep.out (by rw [hgc.out]; simp [h.1, h.2]))
        obtain ⟨h1, h2⟩ := h
        have q1 : (97 : Int) ≤ x := by omega
        have q2 : (x : Int) ≤ 122 := by omega
        go_wp2_with fail
        go_roundw
        case rel => exact ⟨k + 1, by omega, by go_num, trivial, hy.out⟩
        case measure => simp [intOf]; omega
      · have hn := Lib.hid (hno.out (by rw [hgc.out]; simp; omega))
        obtain ⟨h1, h2⟩ := h
        have q1 : ¬ (48 : Int) ≤ x := by omega
        have q2 : ((x : Int) == 45) = false := by simp; omega
        have q3 : ¬ (97 : Int) ≤ x := by omega
        go_wp2_with fail
        go_ret
        exact ⟨by rw [hn.out]; rfl, rfl⟩
      · have hy := Lib.hid (hstep.out (by rw [hgc.out]; simp [h]))
        subst h
        go_wp2_with fail
        go_roundw
        case rel => exact ⟨k + 1, by omega, by go_num, trivial, hy.out⟩
        case measure => simp [intOf]; omega
      · have hy := Lib.hid (hstep.out (by rw [hgc.out]; simp [h.1, h.2]))
        obtain ⟨h1, h2⟩ := h
        have q1 : (48 : Int) ≤ x := by omega
        have q2 : (x : Int) ≤ 57 := by omega
        have q3 : ¬ (97 : Int) ≤ x := by omega
        go_wp2_with fail
        go_roundw
        case rel => exact ⟨k + 1, by omega, by go_num, trivial, hy.out⟩
        case measure => simp [intOf]; omega
      · have hn := Lib.hid (hno.out (by rw [hgc.out]; simp; omega))
        obtain ⟨h1, h2⟩ := h
        have q1 : (48 : Int) ≤ x := by omega
        have q2 : ¬ (x : Int) ≤ 57 := by omega
        have q3 : ¬ (97 : Int) ≤ x := by omega
        have q4 : ((x : Int) == 45) = false := by simp; omega
        go_wp2_with fail
        go_ret
        exact ⟨by rw [hn.out]; rfl, rfl⟩
      · have hn := Lib.hid (hno.out (by rw [hgc.out]; simp; omega))
        have q1 : (48 : Int) ≤ x := by omega
        have q2 : ¬ (x : Int) ≤ 57 := by omega
        have q3 : (97 : Int) ≤ x := by omega
        have q5 : ¬ (x : Int) ≤ 122 := by omega
        have q4 : ((x : Int) == 45) = false := by simp; omega
        go_wp2_with fail
        go_ret
        exact ⟨by rw [hn.out]; rfl, rfl⟩
    · obtain rfl : k = B.size := by omega
      have hg : Hid (G = (decide (0 < B.size) && decide (B.size ≤ 16))) := Lib.hid (by
        rw [← HG.out]
        have : s.all goodC = true := List.all_eq_true.2 (fun c hc => by
          obtain ⟨i, hi, rfl⟩ := List.getElem_of_mem hc
          exact HA.out i hi (by rw [HSZ.out]; exact hi))
        unfold goodB
        rw [this, HSZ.out]; rfl)
      obtain ⟨m, hm⟩ : ∃ m, B.size = m := ⟨_, rfl⟩
      rw [hm] at hg
      rcases (by omega : m < 1 ∨ (1 ≤ m ∧ m ≤ 16) ∨ 16 < m) with h | ⟨h, h'⟩ | h
      · have q1 : ¬ (1 : Int) ≤ m := by omega
        go_wp2_with fail
        go_ret
        exact ⟨by rw [hg.out]; simp; omega, rfl⟩
      · have q1 : (1 : Int) ≤ m := by omega
        have q2 : (m : Int) ≤ 16 := by omega
        go_wp2_with fail
        go_ret
        exact ⟨by rw [hg.out]; simp; omega, rfl⟩
      · have q1 : (1 : Int) ≤ m := by omega
        have q2 : ¬ (m : Int) ≤ 16 := by omega
        go_wp2_with fail
        go_ret
        exact ⟨by rw [hg.out]; simp; omega, rfl⟩
end Go.Proofs.YtlniekobijcanaaGreat
namespace Go.Proofs.YtlniekobijcanaaGreat
open Go.RowKit Go.Maps
theorem neq_item (w : World) (p q : Str × Int) : (binOp .neq 124 (.agg #[vS p.1, .int .i64 p.2]) (.agg #[vS q.1, .int .i64 q.2])).run Tryz.prog w = .ok (.bool (!decide (p = q))) w := by
  obtain ⟨a, m⟩ := p
  obtain ⟨b, n⟩ := q
  simp only [Prod.mk.injEq]
  by_cases h1 : a = b <;> by_cases h2 : m = n <;> simp [go_sem, h1, h2]
/-- An item's cells, at its place. -/
theorem Il.at_ {w : World} {a : Option Addr} {n c k : Nat} {L : Its} {p : Str × Int} (h : Il w (.slice a n c) L) (hp : L[k]? = some p) : ∃ ad, a = some ad ∧ okS p.1 ∧ okI p.2 ∧ w.cell? (ad.add (k * 2)) = some (vS p.1) ∧ w.cell? ⟨(ad.add (k * 2)).block, (ad.add (k * 2)).off + 1, none⟩ = some (.int .i64 p.2) := by
  obtain ⟨_, a', c', e, h1⟩ := h
  injection e with e1 _ _
  obtain ⟨x1, x2, ad, x3, x4, x5⟩ := h1 k p hp
  exact ⟨ad, e1.trans x3, x1, x2, x4, x5⟩
set_option maxRecDepth 100000 in
set_option maxHeartbeats 4000000 in
theorem r6Same (w : World) (u v : Value) (A B : Its) (hA : Il w u A) (hB : Il w v B) : Calls Tryz.prog 69 #[u, v] w fun e w' => e = .returned (.bool (decide (A = B))) ∧ ∃ n, w' = w.drewN n := by
  obtain ⟨G, hG⟩ : ∃ G, decide (A = B) = G := ⟨_, rfl⟩
  rw [hG]
  have HG := Lib.hid hG
  clear hG
  obtain ⟨a, c, rfl⟩ := hA.sl
  obtain ⟨b, d, rfl⟩ := hB.sl
  obtain ⟨n, hn⟩ : ∃ n, A.length = n := ⟨_, rfl⟩
  obtain ⟨m, hm⟩ : ∃ m, B.length = m := ⟨_, rfl⟩
  have hnI : (n : Int) ≤ 9223372036854775807 := by have := hA.1; omega
  have hmI : (m : Int) ≤ 9223372036854775807 := by have := hB.1; omega
  have HA := Lib.hid hA; have HB := Lib.hid hB; have HN := Lib.hid hn; have HM := Lib.hid hm
  rw [hn] at HA ⊢
  rw [hm] at HB ⊢
  clear hA hB hn hm
  by_cases hnm : n = m
  · subst hnm
    go_enter Tryz.func69, Tryz.ntmps69
    go_wp2_with fail
    go_loopw [5] (fun i wr => ∃ k e : Nat, k ≤ n ∧ i = .int .i64 k ∧ wr = w.drewN e ∧ ∀ j, j < k → A[j]? = B[j]?) (fun i _ => n - (intOf i).toNat)
    case atStart => exact ⟨0, 0, Nat.zero_le _, rfl, rfl, fun j hj => by omega⟩
    case round =>
      obtain ⟨k, e, hk, rfl, hwr, hall⟩ := hrel
      have HW := Lib.hid hwr; have HALL := Lib.hid hall
      have hAr : Il wr (.slice a n c) A := by rw [hwr]; exact HA.out.fr ((Fr.refl (fun _ => False) w).drewN e) (fun _ h => h.elim)
      have hBr : Il wr (.slice b n d) B := by rw [hwr]; exact HB.out.fr ((Fr.refl (fun _ => False) w).drewN e) (fun _ h => h.elim)
      clear hwr hall
      by_cases hlt : k < n
      · obtain ⟨p, hp⟩ : ∃ p, A[k]? = some p := ⟨A[k]'(by rw [HN.out]; exact hlt), List.getElem?_eq_getElem _⟩
        obtain ⟨q, hq⟩ : ∃ q, B[k]? = some q := ⟨B[k]'(by rw [HM.out]; exact hlt), List.getElem?_eq_getElem _⟩
        obtain ⟨aa, rfl, -, -, p0, p1⟩ := hAr.at_ hp
        obtain ⟨ba, rfl, -, -, q0, q1⟩ := hBr.at_ hq
        have hneq := fun W => neq_item W p q
        have HP := Lib.hid hp; have HQ := Lib.hid hq
        have hltI : (k : Int) < n := by omega
        clear hp hq hAr hBr
        by_cases hpq : p = q
        · rw [decide_eq_true hpq] at hneq
          have HPQ := Lib.hid hpq
          clear hpq
          go_wp2_with fail
          go_quiet (fail)
          go_wp2_with fail
          go_roundw
          case rel => exact ⟨k + 1, _, by omega, by go_num, (by rw [HW.out, World.drewN_drewN]), fun j hj => by
            by_cases e : j = k
            · rw [e, HP.out, HQ.out, HPQ.out]
            · exact HALL.out j (by omega)⟩
          case measure => simp [intOf]; omega
        · rw [decide_eq_false hpq] at hneq
          have hg : Hid (G = false) := Lib.hid (by
            rw [← HG.out]
            refine decide_eq_false (fun e => hpq ?_)
            have := HP.out
            rw [e, HQ.out] at this
            exact (Option.some.inj this).symm)
          clear hpq
          go_wp2_with fail
          go_quiet (fail)
          go_wp2_with fail
          go_ret
          exact ⟨by rw [hg.out]; rfl, _, by rw [HW.out, World.drewN_drewN]⟩
      · obtain rfl : k = n := by omega
        have hg : Hid (G = true) := Lib.hid (by
          rw [← HG.out]
          refine decide_eq_true (List.ext_getElem? (fun j => ?_))
          by_cases h : j < k
          · exact HALL.out j h
          · rw [List.getElem?_eq_none (by rw [HN.out]; omega), List.getElem?_eq_none (by rw [HM.out]; omega)])
        go_wp2_with fail
        go_ret
        exact ⟨by rw [hg.out]; rfl, _, HW.out⟩
  · have hg : Hid (G = false) := Lib.hid (by
      rw [← HG.out]
      refine decide_eq_false (fun e => hnm ?_)
      rw [← HN.out, ← HM.out, e])
    have hne : ((n : Int) != m) = true := by simp; omega
    go_enter Tryz.func69, Tryz.ntmps69
    go_wp2_with fail
    go_ret
    exact ⟨by rw [hg.out]; rfl, 0, rfl⟩
end Go.Proofs.YtlniekobijcanaaGreat
namespace Go.Proofs.YtlniekobijcanaaGreat
open Go.RowKit Go.Maps
set_option maxRecDepth 100000 in
set_option maxHeartbeats 2000000 in
theorem r6OfB (w : World) (v : Value) (L : Its) (s : Str) (h : Il w v L) : Calls Tryz.prog 80 #[v, vS s] w fun e w' => e = .returned (.int .i64 (ofF L s)) ∧ w = w' := by
  obtain ⟨a, c, rfl⟩ := h.sl
  obtain ⟨N, hN⟩ : ∃ N, L.length = N := ⟨_, rfl⟩
  have hNb : (N : Int) ≤ 9223372036854775807 := by have := h.1; omega
  have HL := Lib.hid h; have HN := Lib.hid hN
  rw [hN] at HL ⊢
  clear h hN
  go_enter Tryz.func80, Tryz.ntmps80
  go_wp2_with fail
  go_loop [5, 6] (fun n i => ∃ k : Nat, k ≤ N ∧ i = .int .i64 k ∧ n = .int .i64 (ofF (L.take k) s)) (fun _ i => N - (intOf i).toNat)
  case atStart => exact ⟨0, Nat.zero_le _, rfl, rfl⟩
  case round =>
    obtain ⟨k, hk, rfl, rfl⟩ := hrel
    by_cases hlt : k < N
    · obtain ⟨p, hp⟩ : ∃ p, L[k]? = some p := ⟨L[k]'(by rw [HN.out]; exact hlt), List.getElem?_eq_getElem _⟩
      obtain ⟨ad, rfl, -, -, x0, x1⟩ := HL.out.at_ hp
      have hlI : (k : Int) < N := by omega
      have HS := Lib.hid (ofF_take s hp)
      obtain ⟨A, hA⟩ : ∃ A, ofF (L.take k) s = A := ⟨_, rfl⟩
      rw [hA] at HS ⊢
      obtain ⟨g, n⟩ := p
      dsimp only at x0 x1
      clear hp hA
      by_cases hg : g = s
      · have q1 : (g == s) = true := by simpa using hg
        have HG := Lib.hid hg
        clear hg
        go_wp2_with fail
        go_round
        case rel => exact ⟨k + 1, by omega, by go_num, by rw [HS.out]; unfold ofStep; rw [if_pos HG.out]⟩
        case measure => simp [intOf]; omega
      · have q1 : (g == s) = false := by simpa using hg
        have HG := Lib.hid hg
        clear hg
        go_wp2_with fail
        go_round
        case rel => exact ⟨k + 1, by omega, by go_num, by rw [HS.out]; unfold ofStep; rw [if_neg HG.out]⟩
        case measure => simp [intOf]; omega
    · obtain rfl : k = N := by omega
      have HE : Hid (ofF (L.take k) s = ofF L s) := Lib.hid (by rw [List.take_of_length_le (by rw [HN.out]; exact Nat.le_refl _)])
      go_wp2_with fail
      go_ret
      exact ⟨by rw [HE.out]; rfl, rfl⟩
theorem drew_fr (w : World) : Fr (fun _ => False) w w.drew := (Fr.refl _ w).drew
theorem left_step (r : Int) (L : Its) {k : Nat} {p : Str × Int} (h : L[k]? = some p) : wrap64 (wrap64 (r - totF (L.take k)) - p.2) = wrap64 (r - totF (L.take (k + 1))) := by
  have e : totF (L.take (k + 1)) = wrap64 (totF (L.take k) + p.2) := by
    unfold totF
    rw [List.take_add_one, h, List.foldl_append]
    rfl
  rw [e]
  generalize totF (L.take k) = T
  unfold wrap64
  omega
set_option maxRecDepth 100000 in
set_option maxHeartbeats 4000000 in
theorem rLeft1 (w : World) (b : BV) (hk : BOk w b) : Calls Tryz.prog 68 #[.agg b.cs] w fun e w' => e = .returned (.int .i64 (leftE b.e)) ∧ Fr (fun _ => False) w w' := by
  have hr : leftE b.e = wrap64 (b.ro - totF b.its) := rfl
  have h0 : wrap64 (b.ro - totF (b.its.take 0)) = b.ro := by
    have h1 : totF (b.its.take 0) = 0 := rfl
    have := hk.ro
    unfold okI at this
    rw [h1, Int.sub_zero]
    exact wrap64_in this
  rw [hr]
  obtain ⟨nu, zo, ro, l, its⟩ := b
  have hl := hk.l
  obtain ⟨la, lc, hle⟩ := hl.sl
  dsimp only at hle
  subst hle
  unfold BV.cs
  dsimp only at h0 hl ⊢
  obtain ⟨N, hN⟩ : ∃ N, its.length = N := ⟨_, rfl⟩
  have HN := Lib.hid hN
  have hlen : (N : Int) ≤ 9223372036854775807 := by have := hl.1; omega
  rw [hN] at hl ⊢
  obtain ⟨n0, hn0⟩ : ∃ n0, w.heap.size = n0 := ⟨_, rfl⟩
  obtain ⟨W0, hW0⟩ : ∃ W0, w.alloc (.cells #[.int .i64 nu, .int .i64 zo, .int .i64 ro, .slice la N lc] 82) = W0 := ⟨_, rfl⟩
  have hf0 : Fr (fun _ => False) w W0 := by rw [← hW0]; exact (Fr.refl _ w).alloc _
  have hx0 : W0.heap[n0]? = some (.cells #[.int .i64 nu, .int .i64 zo, .int .i64 ro, .slice la N lc] 82) := by rw [← hW0]; exact heap_at hn0.symm _
  have HF0 := Lib.hid hf0; have HL := Lib.hid (hl.keep hf0 (fun _ _ _ e => e)); have HZ := Lib.hid h0
  have c2 := cell_obj hx0 2 (.int .i64 ro) rfl
  have c3 := cell_obj hx0 3 (.slice la N lc) rfl
  clear hk hr hl hf0 hx0 hN h0
  go_enter Tryz.func68, Tryz.ntmps68
  go_wp2_with fail
  go_loopw [3, 4] (fun vn vi wr => ∃ k : Nat, k ≤ N ∧ vn = .int .i64 (wrap64 (ro - totF (its.take k))) ∧ vi = .int .i64 k ∧ Fr (fun _ => False) W0 wr) (fun _ vi _ => N - (intOf vi).toNat)
  case atStart => exact ⟨0, Nat.zero_le _, by rw [HZ.out], rfl, Fr.refl _ _⟩
  case round =>
    obtain ⟨k, hk, rfl, rfl, hfr⟩ := hrel
    have HFR := Lib.hid hfr
    have c3 := hfr.cell c3 (fun e => e)
    by_cases hlt : k < N
    · obtain ⟨p, hp⟩ : ∃ p, its[k]? = some p := ⟨its[k]'(by rw [HN.out]; exact hlt), List.getElem?_eq_getElem _⟩
      obtain ⟨ad, rfl, -, -, x0, x1⟩ := (HL.out.keep hfr (fun _ _ _ e => e)).at_ hp
      have hlI : (k : Int) < N := by omega
      have HS := Lib.hid (left_step ro its hp)
      obtain ⟨A, hA⟩ : ∃ A, wrap64 (ro - totF (its.take k)) = A := ⟨_, rfl⟩
      rw [hA] at HS ⊢
      obtain ⟨g, n⟩ := p
      dsimp only at x0 x1 HS
      clear hp hA hfr c2
      go_wp2_with fail
      go_roundw
      case rel => exact ⟨k + 1, by omega, by rw [← HS.out]; first | done | rfl, by go_num, HFR.out⟩
      case measure => simp [intOf]; omega
    · obtain rfl : k = N := by omega
      have hlI : ¬ (k : Int) < k := by omega
      have HE : Hid (totF (its.take k) = totF its) := Lib.hid (by rw [List.take_of_length_le (by rw [HN.out]; exact Nat.le_refl _)])
      clear hfr c2
      go_wp2_with fail
      go_ret
      exact ⟨by rw [HE.out]; rfl, HF0.out.trans HFR.out⟩
set_option maxRecDepth 100000 in
set_option maxHeartbeats 4000000 in
theorem rLeft (w : World) (g : Nat) (L : List BV) (n : Int) (h : Rl w g L) : Calls Tryz.prog 70 #[.pointer (some ⟨g, 0, none⟩), .int .i64 n] w fun e w' => e = .returned (.int .i64 (leftNE (L.map BV.e) n)) ∧ Fr (fun _ => False) w w' := by
  have hfd := Lib.hid (rFind w g L n h)
  have H := Lib.hid h
  rcases idxOf_cases (fun b : BV => decide (b.nu = n)) L with ⟨k1, k2, -⟩ | ⟨i, A, k1, -, k3, k4⟩
  · have k1 : findF L n = -1 := k1
    have k2 : binF L n = none := k2
    have hr : Hid (leftNE (L.map BV.e) n = 0) := Lib.hid (by unfold leftNE; rw [binE_e, k2]; rfl)
    rw [k1] at hfd
    clear h k1 k2
    go_enter Tryz.func70, Tryz.ntmps70
    go_wp2_with (go_at_call 42; refine hfd.out.mono ?_; rintro e w1 ⟨rfl, hf1⟩; have HF1 := Lib.hid hf1; clear hf1)
    go_ret
    exact ⟨by rw [hr.out]; rfl, HF1.out⟩
  · have k3 : findF L n = (i : Int) := k3
    have k4 : binF L n = some A := k4
    have hr : Hid (leftNE (L.map BV.e) n = leftE A.e) := Lib.hid (by unfold leftNE; rw [binE_e, k4]; rfl)
    have hK1 := Lib.hid k1
    rw [k3] at hfd
    have hiN := (List.getElem?_eq_some_iff.1 k1).1
    obtain ⟨N, hN⟩ : ∃ N, L.length = N := ⟨_, rfl⟩
    rw [hN] at hiN
    have hiI : (i : Int) < N := by omega
    have hnn : ¬ (i : Int) < 0 := by omega
    obtain ⟨R, hR⟩ : ∃ R, leftE A.e = R := ⟨_, rfl⟩
    have hL1 := Lib.hid (fun W (hk : BOk W A) => rLeft1 W A hk)
    rw [hR] at hr hL1
    have HN := Lib.hid hN
    have hNI : (N : Int) ≤ 9223372036854775807 := by obtain ⟨a, c, -, q2⟩ := h; have := q2.len; omega
    clear h k1 k3 k4 hR hN
    go_enter Tryz.func70, Tryz.ntmps70
    go_wp2_with fail
    refine hfd.out.mono ?_
    rintro e w1 ⟨rfl, hf1⟩
    have HF1 := Lib.hid hf1
    obtain ⟨a, c, q1, q2⟩ := H.out.keep hf1
    rw [HN.out] at q1 q2
    obtain ⟨ad, rfl, hok, z0, zs⟩ := q2.at_ hK1.out
    have HOK := Lib.hid hok
    obtain ⟨la, lc, hl⟩ := hok.l.sl
    have c0 := cell_obj q1 0 (.slice (some ad) N c) rfl
    obtain ⟨nu, zo, ro, l, its⟩ := A
    dsimp only at hl
    subst hl
    have x0 := z0 (.int .i64 nu) rfl
    have x1 := zs 0 (.int .i64 zo) rfl
    have x2 := zs 1 (.int .i64 ro) rfl
    have x3 := zs 2 (.slice la its.length lc) rfl
    dsimp only [Nat.zero_add, Nat.reduceAdd] at x0 x1 x2 x3
    have HC := Lib.hid (hL1.out w1 HOK.out)
    unfold BV.cs at HC
    dsimp only at HC
    clear hf1 q1 q2 hok z0 zs
    go_wp2_with (go_at_call 68; refine HC.out.mono ?_; rintro e w2 ⟨rfl, hf2⟩; have HF2 := Lib.hid hf2; clear hf2)
    go_ret
    exact ⟨by rw [hr.out]; rfl, HF1.out.trans HF2.out⟩
set_option maxRecDepth 100000 in
set_option maxHeartbeats 4000000 in
theorem rKind (w : World) (b : BV) (s : Str) (hk : BOk w b) : Calls Tryz.prog 117 #[.agg b.cs, vS s] w fun e w' => e = .returned (.int .i64 (kindE b.e s + 1)) ∧ Fr (fun _ => False) w w' := by
  have hr : kindE b.e s = if 0 < ofF b.its s then 0 else if b.its.length = 0 then 1 else if b.its.length < 16 then 2 else 3 := rfl
  rw [hr]
  clear hr
  obtain ⟨nu, zo, ro, l, its⟩ := b
  have hl := hk.l
  obtain ⟨la, lc, hle⟩ := hl.sl
  dsimp only at hle
  subst hle
  unfold BV.cs
  dsimp only at hl ⊢
  have hof := Lib.hid (fun W hf => r6OfB W _ its s (hl.keep (w' := W) (S := fun _ => False) hf (fun _ _ _ e => e)))
  obtain ⟨N, hN⟩ : ∃ N, its.length = N := ⟨_, rfl⟩
  obtain ⟨O, hO⟩ : ∃ O, ofF its s = O := ⟨_, rfl⟩
  rw [hN, hO] at hof ⊢
  clear hk hl hN hO
  have HFA := Lib.hid ((Fr.refl (fun _ => False) w).alloc (.cells #[.int .i64 nu, .int .i64 zo, .int .i64 ro, .slice la N lc] 82))
  by_cases h1 : 0 < O
  · rw [if_pos h1]
    go_enter Tryz.func117, Tryz.ntmps117
    go_wp2_with (go_at_call 80; refine (hof.out _ HFA.out).mono ?_; rintro e w2 ⟨rfl, rfl⟩)
    go_ret
    exact ⟨rfl, HFA.out⟩
  · rw [if_neg h1]
    by_cases h2 : N = 0
    · have h2I : ((N : Int) == 0) = true := by simp; omega
      rw [if_pos h2]
      clear h2
      go_enter Tryz.func117, Tryz.ntmps117
      go_wp2_with (go_at_call 80; refine (hof.out _ HFA.out).mono ?_; rintro e w2 ⟨rfl, rfl⟩)
      go_ret
      exact ⟨rfl, HFA.out⟩
    · have h2I : ((N : Int) == 0) = false := by simp; omega
      rw [if_neg h2]
      by_cases h3 : N < 16
      · have h3I : (N : Int) < 16 := by omega
        rw [if_pos h3]
        clear h2 h3
        go_enter Tryz.func117, Tryz.ntmps117
        go_wp2_with (go_at_call 80; refine (hof.out _ HFA.out).mono ?_; rintro e w2 ⟨rfl, rfl⟩)
        go_ret
        exact ⟨rfl, HFA.out⟩
      · have h3I : ¬ (N : Int) < 16 := by omega
        rw [if_neg h3]
        clear h2 h3
        go_enter Tryz.func117, Tryz.ntmps117
        go_wp2_with (go_at_call 80; refine (hof.out _ HFA.out).mono ?_; rintro e w2 ⟨rfl, rfl⟩)
        go_ret
        exact ⟨rfl, HFA.out⟩
set_option maxRecDepth 100000 in
set_option maxHeartbeats 4000000 in
theorem rTakes (w : World) (b : BV) (s : Str) (hk : BOk w b) : Calls Tryz.prog 119 #[.agg b.cs, vS s] w fun e w' => e = .returned (.bool (kindE b.e s != 3)) ∧ Fr (fun _ => False) w w' := by
  have hr : kindE b.e s = if 0 < ofF b.its s then 0 else if b.its.length = 0 then 1 else if b.its.length < 16 then 2 else 3 := rfl
  have hr2 : (kindE b.e s != 3) = (decide (0 < ofF b.its s) || decide (b.its.length < 16)) := by
    rw [hr]
    by_cases h1 : 0 < ofF b.its s
    · rw [if_pos h1]; simp [h1]
    · rw [if_neg h1]
      by_cases h2 : b.its.length = 0
      · rw [if_pos h2]; simp [h2]
      · rw [if_neg h2]
        by_cases h3 : b.its.length < 16
        · rw [if_pos h3]; simp [h3]
        · rw [if_neg h3]; simp [h1, h3]
  rw [hr2]
  clear hr hr2
  obtain ⟨nu, zo, ro, l, its⟩ := b
  have hl := hk.l
  obtain ⟨la, lc, hle⟩ := hl.sl
  dsimp only at hle
  subst hle
  unfold BV.cs
  dsimp only at hl ⊢
  have hof := Lib.hid (fun W hf => r6OfB W _ its s (hl.keep (w' := W) (S := fun _ => False) hf (fun _ _ _ e => e)))
  obtain ⟨N, hN⟩ : ∃ N, its.length = N := ⟨_, rfl⟩
  obtain ⟨O, hO⟩ : ∃ O, ofF its s = O := ⟨_, rfl⟩
  rw [hN, hO] at hof ⊢
  clear hk hl hN hO
  have HFA := Lib.hid ((Fr.refl (fun _ => False) w).alloc (.cells #[.int .i64 nu, .int .i64 zo, .int .i64 ro, .slice la N lc] 82))
  by_cases h1 : 0 < O
  · have hr : Hid ((decide (0 < O) || decide (N < 16)) = true) := Lib.hid (by simp [h1])
    obtain ⟨R, hR⟩ : ∃ R, (decide (0 < O) || decide (N < 16)) = R := ⟨_, rfl⟩
    rw [hR] at hr ⊢
    clear hR
    go_enter Tryz.func119, Tryz.ntmps119
    go_wp2_with (go_at_call 80; refine (hof.out _ HFA.out).mono ?_; rintro e w2 ⟨rfl, rfl⟩)
    go_ret
    exact ⟨by rw [hr.out]; first | rfl | simp [h1], HFA.out⟩
  · by_cases h3 : N < 16
    · have h3I : (N : Int) < 16 := by omega
      have hr : Hid ((decide (0 < O) || decide (N < 16)) = true) := Lib.hid (by simp [h3])
      obtain ⟨R, hR⟩ : ∃ R, (decide (0 < O) || decide (N < 16)) = R := ⟨_, rfl⟩
      rw [hR] at hr ⊢
      clear hR h3
      go_enter Tryz.func119, Tryz.ntmps119
      go_wp2_with (go_at_call 80; refine (hof.out _ HFA.out).mono ?_; rintro e w2 ⟨rfl, rfl⟩)
      go_ret
      exact ⟨by rw [hr.out]; first | rfl | simp [h1, h3I], HFA.out⟩
    · have h3I : ¬ (N : Int) < 16 := by omega
      have hr : Hid ((decide (0 < O) || decide (N < 16)) = false) := Lib.hid (by simp [h1, h3])
      obtain ⟨R, hR⟩ : ∃ R, (decide (0 < O) || decide (N < 16)) = R := ⟨_, rfl⟩
      rw [hR] at hr ⊢
      clear hR h3
      go_enter Tryz.func119, Tryz.ntmps119
      go_wp2_with (go_at_call 80; refine (hof.out _ HFA.out).mono ?_; rintro e w2 ⟨rfl, rfl⟩)
      go_ret
      exact ⟨by rw [hr.out]; first | rfl | simp [h1, h3I], HFA.out⟩
set_option maxRecDepth 100000 in
set_option maxHeartbeats 4000000 in
theorem rMayN (w : World) (s : Str) (n : Int) (hs : okS s) : Calls Tryz.prog 116 #[vS s, .int .i64 n] w fun e w' => e = .returned (.bool (decide (mayF s n = 0))) ∧ w = w' := by
  have hg := fun W => r6Good W s hs
  have hr : decide (mayF s n = 0) = (goodB s && (decide (1 ≤ n) && decide (n ≤ 1099511627776))) := by
    rw [Bool.eq_iff_iff]
    unfold mayF mayI
    simp only [decide_eq_true_eq, Bool.and_eq_true]
    constructor
    · intro h
      by_cases e : goodB s = true ∧ 1 ≤ n ∧ 0 ≤ n ∧ n ≤ 1099511627776
      · exact ⟨e.1, e.2.1, e.2.2.2⟩
      · rw [if_neg e] at h; omega
    · rintro ⟨h1, h2, h3⟩
      rw [if_pos ⟨h1, h2, by omega, h3⟩]
  rw [hr]
  obtain ⟨G, hG⟩ : ∃ G, goodB s = G := ⟨_, rfl⟩
  simp only [hG] at hg ⊢
  have HG := Lib.hid hg
  clear hr hG hg hs
  cases G with
  | false =>
    rw [Bool.false_and]
    go_enter Tryz.func116, Tryz.ntmps116
    go_wp2_with (go_at_call 18; refine (HG.out _).mono ?_; rintro e w2 ⟨rfl, rfl⟩)
    go_ret
    exact ⟨rfl, rfl⟩
  | true =>
    rw [Bool.true_and]
    by_cases h1 : 1 ≤ n
    · by_cases h2 : n ≤ 1099511627776
      · have e : (decide (1 ≤ n) && decide (n ≤ 1099511627776)) = true := by simp [h1, h2]
        rw [e]
        clear e
        go_enter Tryz.func116, Tryz.ntmps116
        go_wp2_with (go_at_call 18; refine (HG.out _).mono ?_; rintro e w2 ⟨rfl, rfl⟩)
        go_ret
        exact ⟨by first | rfl | simp [h1, h2], rfl⟩
      · have e : (decide (1 ≤ n) && decide (n ≤ 1099511627776)) = false := by simp [h2]
        rw [e]
        clear e
        go_enter Tryz.func116, Tryz.ntmps116
        go_wp2_with (go_at_call 18; refine (HG.out _).mono ?_; rintro e w2 ⟨rfl, rfl⟩)
        go_ret
        exact ⟨by first | rfl | simp [h1, h2], rfl⟩
    · have e : (decide (1 ≤ n) && decide (n ≤ 1099511627776)) = false := by simp [h1]
      rw [e]
      clear e
      go_enter Tryz.func116, Tryz.ntmps116
      go_wp2_with (go_at_call 18; refine (HG.out _).mono ?_; rintro e w2 ⟨rfl, rfl⟩)
      go_ret
      exact ⟨by first | rfl | simp [h1], rfl⟩
set_option maxRecDepth 100000 in
set_option maxHeartbeats 4000000 in
theorem rOf (w : World) (g : Nat) (L : List BV) (s : Str) (h : Rl w g L) : Calls Tryz.prog 28 #[.pointer (some ⟨g, 0, none⟩), vS s] w fun e w' => e = .returned (.int .i64 (sumE (L.map BV.e) s)) ∧ Fr (fun _ => False) w w' := by
  rw [← sumE_e]
  obtain ⟨a, c, q1, q2⟩ := h
  have hNI := q2.len
  obtain ⟨N, hN⟩ : ∃ N, L.length = N := ⟨_, rfl⟩
  have HN := Lib.hid hN
  rw [hN] at q1 q2 hNI
  have c0 := cell_obj q1 0 (.slice a N c) rfl
  have HQ2 := Lib.hid q2
  clear q1 q2 hN
  go_enter Tryz.func28, Tryz.ntmps28
  go_wp2_with fail
  go_loopw [5, 6] (fun va vi wr => ∃ k : Nat, k ≤ N ∧ va = .int .i64 (sumF (L.take k) s) ∧ vi = .int .i64 k ∧ Fr (fun _ => False) w wr) (fun _ vi _ => N - (intOf vi).toNat)
  case atStart => exact ⟨0, Nat.zero_le _, rfl, rfl, Fr.refl _ _⟩
  case round =>
    obtain ⟨k, hk, rfl, rfl, hfr⟩ := hrel
    have HFR := Lib.hid hfr
    have d0 := hfr.cell c0 (fun e => e)
    by_cases hlt : k < N
    · obtain ⟨x, hx⟩ : ∃ x, L[k]? = some x := ⟨L[k]'(by rw [HN.out]; exact hlt), List.getElem?_eq_getElem _⟩
      have HT := Lib.hid (sumF_take s hx)
      obtain ⟨ad, rfl, hok, z0, zs⟩ := (HQ2.out.fr0 bokKeeps hfr).at_ hx
      have hkI : (k : Int) < N := by omega
      obtain ⟨la, lc, hl⟩ := hok.l.sl
      have x3 := zs 2 x.l rfl
      dsimp only [Nat.zero_add, Nat.reduceAdd] at x3
      rw [hl] at x3
      obtain ⟨T, hT⟩ : ∃ T, sumF (L.take k) s = T := ⟨_, rfl⟩
      obtain ⟨O, hO⟩ : ∃ O, ofF x.its s = O := ⟨_, rfl⟩
      rw [hT, hO] at HT
      rw [hT]
      have hOf : Hid (Calls Tryz.prog 80 #[.slice la x.its.length lc, vS s] wr fun e w' => e = .returned (.int .i64 O) ∧ wr = w') := Lib.hid (by
        have := r6OfB wr x.l x.its s hok.l
        rw [hl, hO] at this; exact this)
      clear hx hok z0 zs hl hT hO hfr c0
      go_wp2_with (go_at_call 80; refine hOf.out.mono ?_; rintro e w2 ⟨rfl, rfl⟩)
      go_roundw
      case rel => exact ⟨k + 1, by omega, by first | (rw [HT.out]; done) | (rw [HT.out]; rfl), by go_num, HFR.out⟩
      case measure => simp [intOf]; omega
    · obtain rfl : k = N := by omega
      have hkI : ¬ (k : Int) < k := by omega
      have hres : Hid (sumF (L.take k) s = sumF L s) := Lib.hid (by rw [List.take_of_length_le (by rw [HN.out]; exact Nat.le_refl _)])
      clear hfr c0
      go_wp2_with fail
      go_ret
      exact ⟨by rw [hres.out]; rfl, HFR.out⟩
end Go.Proofs.YtlniekobijcanaaGreat
namespace Go.Proofs.YtlniekobijcanaaGreat
open Go.RowKit Go.Maps
theorem mkQ_flat {bs c : List Int} (h : bs.length + c.length ≤ 262144) : mkQ (bs, false) c = (bs ++ c, false) := by
  unfold mkQ putB putL
  have : ¬ 262144 < bs.length + c.length := by omega
  simp [this]
theorem strCells_sB (s : Str) : Lib.strCells ⟨s.toArray⟩ = u8s (sB s) := by
  unfold Lib.strCells u8s sB
  simp
theorem own_row_cons {w : World} {base : Nat} {v : Value} {x : Int} {bs : List Int} {n : Nat} (h : w.ownsRow base 5 1 v n ([.int .u8 x] ++ u8s bs)) : w.ownsRow base 5 1 v (x :: bs).length (u8s (x :: bs)) := by
  have hl : n = (x :: bs).length := by have := h.1; simp [u8s] at this; simp; omega
  subst hl
  simpa [u8s] using h
set_option maxRecDepth 100000 in
set_option maxHeartbeats 1000000 in
theorem rNumO (w : World) (n : Int) (hn : okI n) : Calls Tryz.prog 122 #[.int .i64 n] w fun e w' => ∃ v, e = .returned v ∧ w'.ownsRow w.heap.size 5 1 v (numB n).length (u8s (numB n)) ∧ Below w.heap.size w w' := by
  obtain ⟨i0, hi', hz0, hz1, hz2⟩ := info_parts infoU8
  have HN := Lib.hid hn
  have hmem : Hid (∀ y ∈ numB n, 0 ≤ y ∧ y < 256) := Lib.hid (fun y hy => numB_mem hn hy)
  unfold okI at hn
  by_cases h : 0 ≤ n ∧ n < 128
  · obtain ⟨h0, h1⟩ := h
    have e : numB n = [n] := by unfold numB; rw [if_pos ⟨h0, h1⟩]
    rw [e] at hmem ⊢
    go_enter Tryz.func122, Tryz.ntmps122
    go_wp2
    go_ret
    exact ⟨_, rfl, by simpa [u8s] using own_new (w := w) #[.int .u8 n] (Nat.le_refl _) (by simp), (Below.refl _ _).alloc (Nat.le_refl _) _⟩
  · have hU1 := numU_lt HN.out
    have e := numB_big h
    rw [e] at hmem ⊢
    have hs8 : nSz (numU n) ≤ 8 := nSz_le (by omega)
    have hD := fun w => rDigits w (numU n) (by omega)
    obtain ⟨U, hU⟩ : ∃ U, numU n = U := ⟨_, rfl⟩
    rw [hU] at hU1 hs8 hD hmem ⊢
    obtain ⟨s, hs⟩ : ∃ s, nSz U = s := ⟨_, rfl⟩
    obtain ⟨dg, hdg⟩ : ∃ dg, beB U s = dg := ⟨_, rfl⟩
    have hdl : dg.length = s := by rw [← hdg, beB_len]
    rw [hs] at hs8 hD hmem ⊢
    rw [hdg] at hD hmem ⊢
    have HD := Lib.hid hD
    have HDL := Lib.hid hdl
    clear hD hs hdg hdl e
    rcases (by omega : n < 0 ∨ 128 ≤ n) with hneg | hpos
    · have hH : numH n = 144 := if_pos hneg
      have hx : -1 - n = (U : Int) := by rw [← hU]; unfold numU; rw [if_pos hneg]; omega
      rw [hH] at hmem ⊢
      clear hU hH h
      go_enter Tryz.func122, Tryz.ntmps122
      obtain ⟨V, hV⟩ : ∃ V : Nat, IntKind.u64.wrap n = (V : Int) := ⟨(n + 18446744073709551616).toNat, by show n % 18446744073709551616 = _; omega⟩
      have hV2 : V < 18446744073709551616 := by have : n % 18446744073709551616 = (V : Int) := hV; omega
      have HV2 := Lib.hid hV2
      clear hV2
      go_wp2_with fail
      refine (rDigits w V HV2.out).mono ?_
      rintro e w1 ⟨v, rfl, -, hB⟩
      have HB1 := Lib.hid hB
      clear hB hV
      have hxw : IntKind.u64.wrap (U : Int) = (U : Int) := by show (U : Int) % 18446744073709551616 = _; omega
      go_wp2_with fail
      refine (HD.out w1).mono ?_
      rintro e w2 ⟨v2, rfl, hown, hB⟩
      obtain ⟨av, cv, rfl⟩ := row_sl hown
      have hBB := HB1.out.trans (hB.mono HB1.out.size)
      have hsz := hBB.size
      have HOW := Lib.hid (own_base hown HB1.out.size); have HB := Lib.hid hBB
      clear hown hB hBB
      go_wp2_with (at_builtin; refine wpList_append_src rfl _ _ 42 rfl w.heap.size 5 i0 (.int .u8 0) 1 Tryz.underlying42 hi' hz0 hz1 hz2 rfl (by decide) _ 1 [.int .u8 (144 + (s : Int))] rfl (own_new #[.int .u8 (144 + (s : Int))] hsz (by simp)) cv rfl ((Rd.own HOW.out).fr ((Fr.refl (fun _ => False) w2).alloc _) (fun _ _ h => h)) (by intro u hu; simp [u8s] at hu; obtain ⟨x, _, rfl⟩ := hu; rfl) (by unfold maxLen; omega) (by omega) (by simp; omega) ?_; intro v' w3 hown' hgrow _)
      go_ret
      exact ⟨_, rfl, own_row_cons hown', (HB.out.alloc hsz _).grown hgrow (by simp; omega) (fun r hr => by cases hr; exact hsz)⟩
    · have hH : numH n = 128 := if_neg (by omega)
      have hx : n = (U : Int) := by rw [← hU]; unfold numU; rw [if_neg (by omega)]; omega
      rw [hH] at hmem ⊢
      clear hU hH h HN
      subst hx
      go_enter Tryz.func122, Tryz.ntmps122
      go_wp2_with fail
      refine (HD.out w).mono ?_
      rintro e w1 ⟨v, rfl, hown, hB⟩
      obtain ⟨av, cv, rfl⟩ := row_sl hown
      have hsz := hB.size
      have HOW := Lib.hid hown; have HB := Lib.hid hB
      clear hown hB
      go_wp2_with (at_builtin; refine wpList_append_src rfl _ _ 42 rfl w.heap.size 5 i0 (.int .u8 0) 1 Tryz.underlying42 hi' hz0 hz1 hz2 rfl (by decide) _ 1 [.int .u8 (128 + (s : Int))] rfl (own_new #[.int .u8 (128 + (s : Int))] hsz (by simp)) cv rfl ((Rd.own HOW.out).fr ((Fr.refl (fun _ => False) w1).alloc _) (fun _ _ h => h)) (by intro u hu; simp [u8s] at hu; obtain ⟨x, _, rfl⟩ := hu; rfl) (by unfold maxLen; omega) (by omega) (by simp; omega) ?_; intro v' w2 hown' hgrow _)
      go_ret
      exact ⟨_, rfl, own_row_cons hown', (HB.out.alloc hsz _).grown hgrow (by simp; omega) (fun r hr => by cases hr; exact hsz)⟩
set_option maxRecDepth 100000 in
set_option maxHeartbeats 2000000 in
theorem rMText (w : World) (g B : Nat) (s : List Int × Bool) (t : Str) (h : RK w g B s) (ht : t.length ≤ 65536) (hB : B ≤ w.heap.size) :
    Calls Tryz.prog 123 #[.pointer (some ⟨g, 0, none⟩), vS t] w fun e w' => (∃ v, e = .returned v) ∧ RK w' g B (mkQ s (textB t)) ∧ Fr (fun b => b = g) w w' := by
  obtain ⟨i0, hi', hz0, hz1, hz2⟩ := info_parts infoU8
  have HH := Lib.hid h; have hg := h.lt
  obtain ⟨m, hm⟩ : ∃ m, t.length = m := ⟨_, rfl⟩
  obtain ⟨T, hT⟩ : ∃ T, ByteArray.mk t.toArray = T := ⟨_, rfl⟩
  have hTs : T.size = m := by rw [← hT, ← hm]; simp [ByteArray.size]
  have hok : okI (m : Int) := by unfold okI; omega
  have hnl := (numB_len hok).2
  have hcells : Hid (Lib.strCells T = u8s (sB t)) := Lib.hid (by rw [← hT]; exact strCells_sB t)
  have htx : Hid (textB t = numB (m : Int) ++ sB t) := Lib.hid (by unfold textB; rw [hm])
  have hbyt : Hid (∀ y ∈ numB (m : Int) ++ sB t, 0 ≤ y ∧ y < 256) := Lib.hid (fun y hy => by
    rcases List.mem_append.1 hy with e | e
    · exact numB_mem hok e
    · exact sB_byt t y e)
  have hsl : Hid ((sB t).length = m) := Lib.hid (by rw [sB_len, hm])
  obtain ⟨nb, hnb⟩ : ∃ nb, numB (m : Int) = nb := ⟨_, rfl⟩
  rw [hnb] at hnl htx hbyt
  have HTS := Lib.hid hTs; have HNL := Lib.hid hnl
  have hmI : (m : Int) ≤ 65536 := by omega
  rw [← hTs] at hmI
  have hN2 : Hid (∀ W : World, Calls Tryz.prog 122 #[.int .i64 (T.size : Int)] W fun e w' => ∃ v, e = .returned v ∧ w'.ownsRow W.heap.size 5 1 v nb.length (u8s nb) ∧ Below W.heap.size W w') := Lib.hid (fun W => by
    have := rNumO W (m : Int) hok
    rw [hnb] at this
    rw [HTS.out]; exact this)
  clear h ht hnb hm hTs hok
  unfold vS
  rw [hT]
  clear hT
  go_enter Tryz.func123, Tryz.ntmps123
  go_wp2_with fail
  refine (hN2.out w).mono ?_
  rintro e w1 ⟨v, rfl, hv, hb⟩
  obtain ⟨av, cv, rfl⟩ := row_sl hv
  obtain ⟨nl, hnl2⟩ : ∃ nl, nb.length = nl := ⟨_, rfl⟩
  have HNL2 := Lib.hid hnl2
  rw [hnl2] at hv hnl ⊢
  have HV := Lib.hid hv; have HB := Lib.hid hb
  have hsz : w.heap.size ≤ w1.heap.size := hb.size
  clear hv hb hnl2
  go_wp2_with (first
    | (at_builtin; (refine Lib.wpList_append_own_string _ rfl _ _ 42 9 rfl w.heap.size 5 i0 Tryz.underlying42 Tryz.underlying9 hi' hz0 hz1 hz2 _ _ _ rfl HV.out T rfl (by unfold maxLen; omega) (by omega) hsz ?_; intro v2 w2 hown2 hgrow2 _; have HO2 := Lib.hid hown2; have HF2 : Hid (Fr (fun b => w.heap.size ≤ b) w w2) := Lib.hid ((Fr.below HB.out).trans (Fr.grown hgrow2 (fun r hr _ => (HV.out.lt r hr).1))); clear hown2 hgrow2)))
  have hbs : Bs w2 v2 (nb ++ sB t) := by
    have := HO2.out
    rw [hcells.out, HTS.out] at this
    have e1 : u8s nb ++ u8s (sB t) = u8s (nb ++ sB t) := by simp [u8s]
    have e2 : nl + m = (nb ++ sB t).length := by rw [List.length_append, HNL2.out, hsl.out]
    rw [e1, e2] at this
    exact (Bs.own this hbyt.out).1
  have hF2' : Fr (fun _ => False) w w2 := HF2.out.mono (fun b hb e => by omega)
  refine (rPut w2 g B s v2 (nb ++ sB t) (HH.out.fr hF2' (fun _ _ h => h)) hbs (by rw [List.length_append, HNL2.out, hsl.out]; have := HTS.out; omega) (Nat.le_trans hB hF2'.size)).mono ?_
  rintro e w3 ⟨⟨v3, rfl⟩, hk, hf⟩
  have HK := Lib.hid hk; have HF3 := Lib.hid ((hF2'.mono (S' := fun b => b = g) (fun _ _ e => e.elim)).trans hf)
  clear hk hf
  go_wp2_with fail
  go_end0
  exact ⟨⟨_, rfl⟩, by rw [htx.out]; exact HK.out, HF3.out⟩
end Go.Proofs.YtlniekobijcanaaGreat
namespace Go.Proofs.YtlniekobijcanaaGreat
open Go.RowKit Go.Maps
theorem calls_q {P : Program} {f : FuncId} {args : Array Value} {w : World} {n : Nat} {v : Value} (h : Calls P f args (w.drewN n) fun e w' => e = .returned v ∧ w.drewN n = w') :
    Calls P f args (w.drewN n) fun e w'' => e = .returned v ∧ ∃ m, w'' = w.drewN m := h.mono fun _ _ ⟨he, hm⟩ => ⟨he, n, hm.symm⟩
/-- The good ahead of place k; nothing ahead of the first. -/
def lastOf (L : Its) : Nat → Str
  | 0 => []
  | k + 1 => (L[k]?.map (·.1)).getD []
theorem itsOk_at {L : Its} {k : Nat} {p : Str × Int} (last : Str) (hp : L[k]? = some p) : itsOk last (L.drop k) = (goodB p.1 && decide (1 ≤ p.2) && mayI p.2 && decide (last < p.1) && itsOk p.1 (L.drop (k + 1))) := by
  have : L.drop k = p :: L.drop (k + 1) := by
    rw [List.drop_eq_getElem_cons (List.getElem?_eq_some_iff.1 hp).1]
    rw [(List.getElem?_eq_some_iff.1 hp).2]
  rw [this]; rfl
set_option maxRecDepth 100000 in
set_option maxHeartbeats 8000000 in
theorem r6May (w : World) (v : Value) (L : Its) (hL : Il w v L) : Calls Tryz.prog 112 #[v] w fun e w' => e = .returned (.bool (mayL L)) ∧ ∃ n, w' = w.drewN n := by
  obtain ⟨G, hG⟩ : ∃ G, mayL L = G := ⟨_, rfl⟩
  rw [hG]
  have HG := Lib.hid hG
  clear hG
  obtain ⟨a, c, rfl⟩ := hL.sl
  obtain ⟨n, hn⟩ : ∃ n, L.length = n := ⟨_, rfl⟩
  have hnI : (n : Int) ≤ 9223372036854775807 := by have := hL.1; omega
  have HL := Lib.hid hL; have HN := Lib.hid hn
  rw [hn] at HL ⊢
  clear hL hn
  go_enter Tryz.func112, Tryz.ntmps112
  go_wp2_with fail
  go_loopw [3] (fun i wr => ∃ k e : Nat, k ≤ n ∧ i = .int .i64 k ∧ wr = w.drewN e ∧ itsOk [] L = itsOk (lastOf L k) (L.drop k)) (fun i _ => n - (intOf i).toNat)
  case atStart => exact ⟨0, 0, Nat.zero_le _, rfl, rfl, rfl⟩
  case round =>
    obtain ⟨k, e, hk, rfl, hwr, hall⟩ := hrel
    have HW := Lib.hid hwr; have HALL := Lib.hid hall
    have hLr : Il wr (.slice a n c) L := by rw [hwr]; exact HL.out.fr ((Fr.refl (fun _ => False) w).drewN e) (fun _ h => h.elim)
    clear hwr hall
    by_cases hlt : k < n
    · obtain ⟨p, hp⟩ : ∃ p, L[k]? = some p := ⟨L[k]'(by rw [HN.out]; exact hlt), List.getElem?_eq_getElem _⟩
      obtain ⟨ad, rfl, ok1, ok2, p0, p1⟩ := hLr.at_ hp
      have hstep := itsOk_at (lastOf L k) hp
      have hnext : lastOf L (k + 1) = p.1 := by show (L[k]?.map (·.1)).getD [] = _; rw [hp]; rfl
      have hltI : (k : Int) < n := by omega
      have hbad : ∀ b, (goodB p.1 && decide (1 ≤ p.2) && mayI p.2 && decide (lastOf L k < p.1)) = b → b = false → G = false := fun b hb h => by
        rw [← HG.out]
        unfold mayL
        rw [HALL.out, hstep, hb, h]; rfl
      have hgo : (goodB p.1 && decide (1 ≤ p.2) && mayI p.2 && decide (lastOf L k < p.1)) = true → itsOk [] L = itsOk (lastOf L (k + 1)) (L.drop (k + 1)) := fun hb => by
        rw [HALL.out, hstep, hb, hnext]; rfl
      have HBAD := Lib.hid hbad; have HGO := Lib.hid hgo
      clear hbad hgo hstep hnext
      obtain ⟨g, x⟩ := p
      dsimp only at p0 p1 ok1 ok2 HBAD HGO
      have hGd := r6Good
      have HGd := Lib.hid (fun W => r6Good W g ok1)
      have HMy := Lib.hid (fun W => r5May W x)
      clear hGd
      cases h1 : goodB g with
      | false =>
        rw [h1] at HGd HBAD
        have hg := Lib.hid (HBAD.out _ rfl rfl)
        clear h1
        go_wp2_with fail
        go_big_quiet ((go_at_call 18; exact calls_q (HGd.out _)))
        go_wp2_with fail
        go_ret
        exact ⟨by rw [hg.out]; rfl, _, by rw [HW.out, World.drewN_drewN]⟩
      | true =>
        rw [h1] at HGd HBAD HGO
        have hpos := good_pos h1
        have HPOS := Lib.hid hpos
        clear h1 hpos
        by_cases h2 : x < 1
        · have hd2 : decide (x < 1) = true := decide_eq_true h2
          have hg := Lib.hid (HBAD.out _ rfl (by simp; omega))
          go_wp2_with fail
          go_big_quiet ((go_at_call 18; exact calls_q (HGd.out _)))
          go_wp2_with fail
          go_ret
          exact ⟨by rw [hg.out]; rfl, _, by rw [HW.out, World.drewN_drewN]⟩
        · have hd2 : decide (x < 1) = false := decide_eq_false h2
          cases h3 : mayI x with
          | false =>
            rw [h3] at HMy HBAD
            have hg := Lib.hid (HBAD.out _ rfl (by simp))
            clear h3
            go_wp2_with fail
            go_big_quiet (first | (go_at_call 18; exact calls_q (HGd.out _)) | (go_at_call 120; exact calls_q (HMy.out _)))
            go_wp2_with fail
            go_ret
            exact ⟨by rw [hg.out]; rfl, _, by rw [HW.out, World.drewN_drewN]⟩
          | true =>
            rw [h3] at HMy HBAD HGO
            clear h3
            have hx1 : (decide (1 ≤ x)) = true := by simp; omega
            rw [hx1] at HBAD HGO
            clear hx1
            rcases Nat.eq_zero_or_pos k with h0 | h0
            · have H0 := Lib.hid h0
              have hd3 : decide (0 < k) = false := decide_eq_false (by omega)
              rw [h0] at HGO
              clear h0
              have hy := Lib.hid (HGO.out (by show (true && true && true && decide (([] : Str) < g)) = true; rw [decide_eq_true HPOS.out]; rfl))
              go_wp2_with fail
              go_big_quiet (first | (go_at_call 18; exact calls_q (HGd.out _)) | (go_at_call 120; exact calls_q (HMy.out _)))
              go_wp2_with fail
              go_roundw
              case rel => exact ⟨k + 1, _, by omega, by go_num, (by rw [HW.out, World.drewN_drewN]), by rw [H0.out]; exact hy.out⟩
              case measure => simp [intOf]; omega
            · obtain ⟨j, hj⟩ : ∃ j, k = j + 1 := ⟨k - 1, by omega⟩
              obtain ⟨⟨g', x'⟩, hp'⟩ : ∃ p, L[j]? = some p := ⟨L[j]'(by rw [HN.out]; omega), List.getElem?_eq_getElem _⟩
              obtain ⟨ad', had, -, -, r0, -⟩ := hLr.at_ hp'
              obtain rfl := Option.some.inj had
              have hlast : lastOf L k = g' := by rw [hj]; show (L[j]?.map (·.1)).getD [] = _; rw [hp']; rfl
              rw [hlast] at HBAD HGO
              dsimp only at r0
              clear hp' had hlast hLr
              have hd3 : decide (0 < k) = true := decide_eq_true (by omega)
              have hsub : (k : Int) - 1 = (j : Int) := by omega
              have HJ := Lib.hid hj
              have hjn : (j : Int) < n := by omega
              clear hj h0
              by_cases hlg : g' < g
              · have hy := Lib.hid (HGO.out (by simp [hlg]))
                have q1 : Op.bytesLess g' g = true := by rw [bytesLess_eq]; simpa using hlg
                clear hlg
                go_wp2_with fail
                go_big_quiet (first | (go_at_call 18; exact calls_q (HGd.out _)) | (go_at_call 120; exact calls_q (HMy.out _)))
                go_wp2_with fail
                go_roundw
                case rel => exact ⟨k + 1, _, by omega, by go_num, (by rw [HW.out, World.drewN_drewN]), hy.out⟩
                case measure => simp [intOf]; omega
              · have hg := Lib.hid (HBAD.out _ rfl (by simp [hlg]))
                have q1 : Op.bytesLess g' g = false := by rw [bytesLess_eq]; simpa using hlg
                clear hlg
                go_wp2_with fail
                go_big_quiet (first | (go_at_call 18; exact calls_q (HGd.out _)) | (go_at_call 120; exact calls_q (HMy.out _)))
                go_wp2_with fail
                go_ret
                exact ⟨by rw [hg.out]; rfl, _, by rw [HW.out, World.drewN_drewN]⟩
    · obtain rfl : k = n := by omega
      have hg : Hid (G = decide (k ≤ 16)) := Lib.hid (by
        rw [← HG.out]
        unfold mayL
        rw [HALL.out, List.drop_eq_nil_of_le (by rw [HN.out]; exact Nat.le_refl _), HN.out]; rfl)
      by_cases h : k ≤ 16
      · have hI : (k : Int) ≤ 16 := by omega
        go_wp2_with fail
        go_ret
        exact ⟨by rw [hg.out, decide_eq_true h]; rfl, _, HW.out⟩
      · have hI : ¬ (k : Int) ≤ 16 := by omega
        go_wp2_with fail
        go_ret
        exact ⟨by rw [hg.out, decide_eq_false h]; rfl, _, HW.out⟩
end Go.Proofs.YtlniekobijcanaaGreat
namespace Go.Proofs.YtlniekobijcanaaGreat
open Go.RowKit Go.Maps
theorem rNumG {w : World} {g B : Nat} {bs : List Int} (n : Int) (h : RK w g B (bs, false)) (hn : okI n) (hB : B ≤ w.heap.size) (hl : bs.length ≤ 262100) :
    Calls Tryz.prog 81 #[.pointer (some ⟨g, 0, none⟩), .int .i64 n] w fun e w' => (∃ v, e = .returned v) ∧ RK w' g B (bs ++ numB n, false) ∧ Fr (fun b => b = g) w w' := by
  have := rMNum w g B (bs, false) n h hn hB
  rw [mkQ_flat (by have := (numB_len hn).2; omega)] at this
  exact this
theorem rTextG {w : World} {g B : Nat} {bs : List Int} (t : Str) (h : RK w g B (bs, false)) (ht : t.length ≤ 16) (hB : B ≤ w.heap.size) (hl : bs.length ≤ 262100) :
    Calls Tryz.prog 123 #[.pointer (some ⟨g, 0, none⟩), vS t] w fun e w' => (∃ v, e = .returned v) ∧ RK w' g B (bs ++ textB t, false) ∧ Fr (fun b => b = g) w w' := by
  have := rMText w g B (bs, false) t h (by omega) hB
  rw [mkQ_flat (by have := textB_len ht; omega)] at this
  exact this
set_option maxRecDepth 100000 in
set_option maxHeartbeats 4000000 in
theorem rPutG (w : World) (g B : Nat) (bs : List Int) (v : Value) (L : Its) (h : RK w g B (bs, false)) (hi : Il w v L) (hv : L ≠ [] → ∀ b, v.ownBlock = some b → b ≠ g) (hl : bs.length ≤ 200000) (hB : B ≤ w.heap.size) (hn : L.length ≤ 16) (hits : ∀ p ∈ L, p.1.length ≤ 16 ∧ okI p.2) :
    Calls Tryz.prog 82 #[.pointer (some ⟨g, 0, none⟩), v] w fun e w' => (∃ v, e = .returned v) ∧ RK w' g B (bs ++ numB (L.length : Int) ++ itsQ L, false) ∧ Fr (fun b => b = g) w w' := by
  obtain ⟨la, lc, rfl⟩ := hi.sl
  obtain ⟨N, hN⟩ : ∃ N : Nat, L.length = N := ⟨_, rfl⟩
  have HN := Lib.hid hN
  rw [hN] at hi hv hn ⊢
  have HIL := Lib.hid hi; have HV := Lib.hid hv; have HL := Lib.hid hl; have HB := Lib.hid hB; have HI := Lib.hid hits
  have HRK := Lib.hid h
  have okN : Hid (okI (N : Int)) := Lib.hid (by unfold okI; omega)
  have hNI : (N : Int) ≤ 16 := by omega
  clear hN hi hv hl hB hits h
  go_enter Tryz.func82, Tryz.ntmps82
  go_wp2_with (go_at_call 81; refine (rNumG _ HRK.out okN.out HB.out (by have := HL.out; omega)).mono ?_; rintro e w1 ⟨⟨v1, rfl⟩, hk1, hf1⟩; have HK1 := Lib.hid hk1; have HF1 := Lib.hid hf1; clear hk1 hf1)
  go_loopw [4] (fun i wr => ∃ j : Nat, j ≤ N ∧ i = .int .i64 j ∧ RK wr g B (bs ++ numB (N : Int) ++ itsQ (L.take j), false) ∧ Fr (fun b => b = g) w wr) (fun i _ => N - (intOf i).toNat)
  case atStart => exact ⟨0, Nat.zero_le _, rfl, by simpa [itsQ] using HK1.out, HF1.out⟩
  case round =>
    obtain ⟨j, hj, rfl, hkr, hfr⟩ := hrel
    by_cases hlt : j < N
    · obtain ⟨p, hp⟩ : ∃ p, L[j]? = some p := ⟨L[j]'(by rw [HN.out]; exact hlt), List.getElem?_eq_getElem _⟩
      have hne : L ≠ [] := fun e => by rw [e] at hp; simp at hp
      obtain ⟨ad, rfl, -, -, x0, x1⟩ := HIL.out.at_ hp
      obtain ⟨q1, q2⟩ := HI.out p (List.mem_of_getElem? hp)
      have hltI : (j : Int) < N := by omega
      have hadg : ad.block ≠ g := HV.out hne ad.block rfl
      have hlj : (itsQ (L.take j)).length ≤ 544 := by
        have h1 := itsQ_len (L := L.take j) (fun p hp => HI.out p (List.mem_of_mem_take hp))
        have h2 : (L.take j).length ≤ L.length := by rw [List.length_take]; omega
        have := HN.out
        omega
      have y0 := hfr.cell x0 (by rw [add_block]; exact hadg)
      have y1 := hfr.cell x1 (by rw [add_block]; exact hadg)
      have HT := Lib.hid (itsQ_take hp)
      obtain ⟨gx, nx⟩ := p
      dsimp only at q1 q2 y0 y1 HT x0 x1
      have HKR := Lib.hid hkr; have HFR := Lib.hid hfr; have Q1 := Lib.hid q1; have Q2 := Lib.hid q2; have HLJ := Lib.hid hlj; have HAD := Lib.hid hadg; have X1 := Lib.hid x1
      have hby : Hid (B ≤ wr.heap.size) := Lib.hid (by have := hfr.size; have := HB.out; omega)
      clear hkr hfr q1 q2 hlj hadg hp hne x0 x1
      go_wp2_with (first
        | (go_at_call 123; refine (rTextG gx HKR.out Q1.out hby.out (by have := HLJ.out; have := HL.out; have := (numB_len okN.out).2; (try simp only [List.length_append]); omega)).mono ?_; rintro e w2 ⟨⟨v2, rfl⟩, hk2, hf2⟩; have z1 := (HFR.out.trans hf2).cell X1.out (by rw [add_block]; exact HAD.out); have HK2 := Lib.hid hk2; have HF2 := Lib.hid hf2; clear hk2 hf2)
        | (go_at_call 81; refine (rNumG nx HK2.out Q2.out (by have := hby.out; have := HF2.out.size; omega) (by have := HLJ.out; have := HL.out; have := (numB_len okN.out).2; have := textB_len Q1.out; (try simp only [List.length_append]); omega)).mono ?_; rintro e w3 ⟨⟨v3, rfl⟩, hk3, hf3⟩; have HK3 := Lib.hid hk3; have HF3 := Lib.hid hf3; clear hk3 hf3))
      go_roundw
      case rel => exact ⟨j + 1, by omega, by go_num, by rw [HT.out, ← List.append_assoc, ← List.append_assoc]; exact HK3.out, HFR.out.trans (HF2.out.trans HF3.out)⟩
      case measure => simp [intOf]; omega
    · obtain rfl : j = N := by omega
      have hall : L.take j = L := List.take_of_length_le (by rw [HN.out]; exact Nat.le_refl _)
      rw [hall] at hkr
      have HKR := Lib.hid hkr; have HFR := Lib.hid hfr
      clear hkr hfr hall
      go_wp2_with fail
      go_end0
      exact ⟨⟨_, rfl⟩, HKR.out, HFR.out⟩
/-- What Pack has laid so far. -/
structure Rp (w W : World) (n0 : Nat) (bs : List Int) : Prop where
  rk : RK W n0 n0 (bs, false)
  fr : Fr (fun _ => False) w W
theorem Rp.step {w W W' : World} {n0 : Nat} {bs bs' : List Int} (h : Rp w W n0 bs) (hn : w.heap.size = n0) (hk : RK W' n0 n0 (bs', false)) (hf : Fr (fun b => b = n0) W W') : Rp w W' n0 bs' :=
  ⟨hk, h.fr.trans' hf (fun b hb e => by omega)⟩
set_option maxRecDepth 100000 in
set_option maxHeartbeats 8000000 in
theorem rPack (w : World) (g : Nat) (L : List BV) (h : Rl w g L) (hL2 : L.length ≤ 64) (hok : ∀ x ∈ L.map BV.e, BEok x) :
    Calls Tryz.prog 29 #[.pointer (some ⟨g, 0, none⟩)] w fun e w' => ∃ v, e = .returned v ∧ w'.ownsRow w.heap.size 5 1 v (packE (L.map BV.e)).length (u8s (packE (L.map BV.e))) ∧ Fr (fun _ => False) w w' := by
  have HH := Lib.hid h
  obtain ⟨a, c, q1, q2⟩ := h
  have hNI := q2.len
  have HOK := Lib.hid hok
  obtain ⟨N, hN⟩ : ∃ N, L.length = N := ⟨_, rfl⟩
  have HN := Lib.hid hN
  rw [hN] at q1 q2 hNI hL2
  have HN64 := Lib.hid hL2
  have c0 := cell_obj q1 0 (.slice a N c) rfl
  have HC0 := Lib.hid c0
  have HQ2 := Lib.hid q2
  have okN : Hid (okI (N : Int)) := Lib.hid (by unfold okI; omega)
  have hres : Hid (packE (L.map BV.e) = numB (N : Int) ++ (L.map BV.e).flatMap binB) := Lib.hid (by unfold packE; rw [List.length_map, hN])
  obtain ⟨PK, hPK⟩ : ∃ P, packE (L.map BV.e) = P := ⟨_, rfl⟩
  rw [hPK] at hres ⊢
  obtain ⟨n0, hn0⟩ : ∃ n0, w.heap.size = n0 := ⟨_, rfl⟩
  have HS := Lib.hid hn0
  obtain ⟨W0, hW0⟩ : ∃ W0, w.alloc (.cells #[.slice none 0 0, .bool false] 118) = W0 := ⟨_, rfl⟩
  have hP0 : Rp w W0 n0 [] := by rw [← hW0, ← hn0]; exact ⟨RK.new w, (Fr.refl _ w).alloc _⟩
  have HP := Lib.hid hP0
  have d0 := hP0.fr.cell c0 (fun e => e)
  clear q1 q2 hN hok hPK hP0 c0
  go_enter Tryz.func29, Tryz.ntmps29
  go_wp2_with fail
  refine (rNumG (N : Int) HP.out.rk okN.out (by have := HP.out.fr.size; have := HS.out; omega) (by simp)).mono ?_
  rintro e w2 ⟨⟨v2, rfl⟩, hk2, hf2⟩
  have HP2 := Lib.hid (HP.out.step HS.out hk2 hf2)
  clear hk2 hf2 d0
  go_wp2_with fail
  go_loopw [4] (fun vi wr => ∃ k : Nat, k ≤ N ∧ vi = .int .i64 k ∧ Rp w wr n0 (numB (N : Int) ++ ((L.map BV.e).take k).flatMap binB)) (fun vi _ => N - (intOf vi).toNat)
  case atStart => exact ⟨0, Nat.zero_le _, rfl, by simpa using HP2.out⟩
  case round =>
    obtain ⟨k, hk, rfl, hP⟩ := hrel
    have HP := Lib.hid hP
    have d0 := hP.fr.cell HC0.out (fun e => e)
    by_cases hlt : k < N
    · obtain ⟨x, hx⟩ : ∃ x, L[k]? = some x := ⟨L[k]'(by rw [HN.out]; exact hlt), List.getElem?_eq_getElem _⟩
      obtain ⟨ad, rfl, hok, z0, zs⟩ := HQ2.out.at_ hx
      have hkI : (k : Int) < N := by omega
      have hbe : BEok x.e := HOK.out x.e (List.mem_map.2 ⟨x, List.mem_of_getElem? hx, rfl⟩)
      have hitm := hbe.items
      have hil := hok.l
      obtain ⟨la, lc, hl⟩ := hil.sl
      have hfacts : Hid (∀ W, Fr (fun _ => False) w W → W.cell? ⟨g, 0, none⟩ = some (.slice (some ad) N c) ∧ W.cell? (ad.add (k * 4)) = some (.int .i64 x.nu) ∧ W.cell? ⟨(ad.add (k * 4)).block, (ad.add (k * 4)).off + 1, none⟩ = some (.int .i64 x.zo) ∧ W.cell? ⟨(ad.add (k * 4)).block, (ad.add (k * 4)).off + 2, none⟩ = some (.int .i64 x.ro) ∧ W.cell? ⟨(ad.add (k * 4)).block, (ad.add (k * 4)).off + 3, none⟩ = some (.slice la x.its.length lc)) := Lib.hid (fun W hf =>
        ⟨hf.cell HC0.out (fun e => e), hf.cell (z0 (.int .i64 x.nu) rfl) (fun e => e), hf.cell (zs 0 (.int .i64 x.zo) rfl) (fun e => e), hf.cell (zs 1 (.int .i64 x.ro) rfl) (fun e => e), hf.cell (zs 2 (.slice la x.its.length lc) (by rw [← hl]; rfl)) (fun e => e)⟩)
      have HIL : Hid (∀ W, Fr (fun _ => False) w W → Il W (.slice la x.its.length lc) x.its ∧ (x.its ≠ [] → ∀ b, (Value.slice la x.its.length lc).ownBlock = some b → b ≠ n0)) := Lib.hid (fun W hf => by
        rw [hl] at hil
        exact ⟨hil.keep hf (fun _ _ _ e => e), fun hne b hb e => by have := hil.lt hne b hb; have := HS.out; omega⟩)
      have hlen : Hid ((numB (N : Int) ++ ((L.map BV.e).take k).flatMap binB).length ≤ 40000) := Lib.hid (by
        have h1 := binsB_len (L := (L.map BV.e).take k) (fun b hb => HOK.out b (List.mem_of_mem_take hb))
        have h2 : ((L.map BV.e).take k).length ≤ k := by rw [List.length_take]; omega
        have h3 := (numB_len okN.out).2
        have h4 := HN64.out
        rw [List.length_append]; omega)
      have hnext : Hid ((numB (N : Int) ++ ((L.map BV.e).take (k + 1)).flatMap binB) = (numB (N : Int) ++ ((L.map BV.e).take k).flatMap binB) ++ binB x.e) := Lib.hid (by
        have : (L.map BV.e)[k]? = some x.e := by rw [List.getElem?_map, hx]; rfl
        rw [List.take_add_one, this, List.flatMap_append, List.append_assoc]
        simp)
      have hbin : Hid (binB x.e = numB x.nu ++ numB x.zo ++ numB x.ro ++ (numB (x.its.length : Int) ++ itsQ x.its)) := Lib.hid rfl
      have ok1 : Hid (okI x.nu) := Lib.hid (by have := hbe.nu; unfold okI; show _ ≤ x.e.nu ∧ x.e.nu ≤ _; omega)
      have ok2 : Hid (okI x.zo) := Lib.hid (by have := hbe.zo; unfold okI; show _ ≤ x.e.zo ∧ x.e.zo ≤ _; omega)
      have ok3 : Hid (okI x.ro) := Lib.hid (by have := hbe.ro; unfold okI; show _ ≤ x.e.ro ∧ x.e.ro ≤ _; omega)
      have HITM : Hid (x.its.length ≤ 16 ∧ ∀ p ∈ x.its, p.1.length ≤ 16 ∧ okI p.2) := Lib.hid hitm
      obtain ⟨bsk, hbsk⟩ : ∃ b, numB (N : Int) ++ ((L.map BV.e).take k).flatMap binB = b := ⟨_, rfl⟩
      rw [hbsk] at HP hlen hnext
      obtain ⟨x0, x1, x2, x3, x4⟩ := hfacts.out _ hP.fr
      clear hx hok z0 zs hbe hitm hil hl hP hbsk d0
      go_wp2_with fail
      refine (rNumG x.nu HP.out.rk ok1.out (by have := HP.out.fr.size; have := HS.out; omega) (by have := hlen.out; omega)).mono ?_
      rintro e w3 ⟨⟨v3, rfl⟩, hk3, hf3⟩
      have HP := Lib.hid (HP.out.step HS.out hk3 hf3)
      clear hk3 hf3 x0 x1 x2 x3 x4
      obtain ⟨x0, x1, x2, x3, x4⟩ := hfacts.out _ HP.out.fr
      go_wp2_with fail
      refine (rNumG x.zo HP.out.rk ok2.out (by have := HP.out.fr.size; have := HS.out; omega) (by have := hlen.out; have := (numB_len ok1.out).2; simp only [List.length_append]; omega)).mono ?_
      rintro e w4 ⟨⟨v4, rfl⟩, hk4, hf4⟩
      have HP := Lib.hid (HP.out.step HS.out hk4 hf4)
      clear hk4 hf4 x0 x1 x2 x3 x4
      obtain ⟨x0, x1, x2, x3, x4⟩ := hfacts.out _ HP.out.fr
      go_wp2_with fail
      refine (rNumG x.ro HP.out.rk ok3.out (by have := HP.out.fr.size; have := HS.out; omega) (by have := hlen.out; have := (numB_len ok1.out).2; have := (numB_len ok2.out).2; simp only [List.length_append]; omega)).mono ?_
      rintro e w5 ⟨⟨v5, rfl⟩, hk5, hf5⟩
      have HP := Lib.hid (HP.out.step HS.out hk5 hf5)
      clear hk5 hf5 x0 x1 x2 x3 x4
      obtain ⟨x0, x1, x2, x3, x4⟩ := hfacts.out _ HP.out.fr
      go_wp2_with fail
      refine (rPutG w5 n0 n0 _ _ x.its HP.out.rk (HIL.out _ HP.out.fr).1 (HIL.out _ HP.out.fr).2 (by have := hlen.out; have := (numB_len ok1.out).2; have := (numB_len ok2.out).2; have := (numB_len ok3.out).2; simp only [List.length_append]; omega) (by have := HP.out.fr.size; have := HS.out; omega) HITM.out.1 HITM.out.2).mono ?_
      rintro e w6 ⟨⟨v6, rfl⟩, hk6, hf6⟩
      have HP := Lib.hid (HP.out.step HS.out hk6 hf6)
      clear hk6 hf6 x0 x1 x2 x3 x4
      go_wp2_with fail
      go_roundw
      case rel =>
        refine ⟨k + 1, by omega, by go_num, ?_⟩
        have := HP.out
        rw [hnext.out, hbin.out]
        simpa only [List.append_assoc] using this
      case measure => simp [intOf]; omega
    · obtain rfl : k = N := by omega
      have hkI : ¬ (k : Int) < k := by omega
      have hall : (numB (k : Int) ++ ((L.map BV.e).take k).flatMap binB) = PK := by rw [List.take_of_length_le (by rw [List.length_map, HN.out]; exact Nat.le_refl _)]; exact hres.out.symm
      rw [hall] at HP
      obtain ⟨⟨v, r1, r2, r3⟩, -, -⟩ := HP.out.rk
      have e0 := cell_obj r1 0 v rfl
      have HR2 := Lib.hid r2
      obtain ⟨va, vc, rfl⟩ := row_sl r2
      clear hP r1 r2 r3 hall
      go_wp2_with fail
      go_ret
      exact ⟨_, rfl, HR2.out, HP.out.fr⟩
end Go.Proofs.YtlniekobijcanaaGreat
namespace Go.Proofs.YtlniekobijcanaaGreat
open Go.RowKit Go.Maps
theorem rit1_ok (t : Tst) : okS (rit1 t).1.1 ∧ okI (rit1 t).1.2 := by
  have h1 := tkRb_len t (m := 16) (by omega)
  have h2 := tk_in1 (tkR t 16).2 (b := 1099511627776) (by omega)
  unfold rit1
  exact ⟨by unfold okS maxLen; dsimp only; omega, by unfold okI; dsimp only; omega⟩
set_option maxRecDepth 100000 in
set_option maxHeartbeats 16000000 in
theorem rRead (w : World) (g : Nat) (K : Nat → Prop) (t : Tst) (h : TR w g K t.1 t.2) (hK : ∀ b, K b → b < w.heap.size) :
    Calls Tryz.prog 67 #[.pointer (some ⟨g, 0, none⟩)] w fun e w' => ∃ v, e = .returned (.tuple #[v, .bool (readR t).2.2]) ∧ w'.ownsRow w.heap.size 124 2 v (readR t).1.length (itCs (readR t).1) ∧ TR w' g K (readR t).2.1.1 (readR t).2.1.2 ∧ Fr (fun b => b = g) w w' ∧ ∀ p ∈ (readR t).1, okS p.1 ∧ okI p.2 := by
  obtain ⟨i0, hi', hz0, hz1, hz2⟩ := info_parts infoItem
  have hx := Lib.hid (rTk w g K t 0 16 h)
  have hqi := tk_in t (a := 0) (b := 16) (by omega) (by omega)
  obtain ⟨q, hq⟩ : ∃ q, tk t 0 16 = q := ⟨_, rfl⟩
  obtain ⟨Z, hZ⟩ : ∃ Z, readG (tk t 0 16).1.toNat (tk t 0 16).2 [] = Z := ⟨_, rfl⟩
  have hR : readR t = (Z.1, Z.2, !Z.2.2 && mayL Z.1) := by unfold readR; rw [hZ]
  rw [hR]
  rw [hq] at hx hqi hZ
  obtain ⟨q1, q2⟩ := q
  obtain ⟨N, rfl⟩ : ∃ N : Nat, q1 = N := ⟨q1.toNat, by dsimp only at hqi; omega⟩
  dsimp only at hx hqi hZ ⊢
  rw [Int.toNat_natCast] at hZ
  have hN : N ≤ 16 := by omega
  obtain ⟨n0, hn0⟩ : ∃ n0, w.heap.size = n0 := ⟨_, rfl⟩
  have HS := Lib.hid hn0
  have HKK := Lib.hid hK
  have hg := h.lt
  have HG := Lib.hid hg
  have HZ := Lib.hid hZ
  obtain ⟨PP, hPP⟩ : ∃ PP : Ending → World → Prop, (fun e w' => ∃ v, e = .returned (.tuple #[v, .bool (!Z.2.2 && mayL Z.1)]) ∧ w'.ownsRow n0 124 2 v Z.1.length (itCs Z.1) ∧ TR w' g K Z.2.1 Z.2.2 ∧ Fr (fun b => b = g) w w' ∧ ∀ p ∈ Z.1, okS p.1 ∧ okI p.2) = PP := ⟨_, rfl⟩
  have HPP := Lib.hid hPP
  rw [hn0, hPP]
  clear h hq hqi hK hg hPP hR hZ
  go_enter Tryz.func67, Tryz.ntmps67
  go_wp2_with (go_at_call 66; refine hx.out.mono ?_; rintro e w1 ⟨rfl, h1, h2⟩; have H1 := Lib.hid h1; have H2 := Lib.hid h2; clear h1 h2)
  go_loopw [5, 6] (fun vo vi wr => ∃ (k : Nat) (A : Its) (t' : Tst), k ≤ N ∧ vi = .int .i64 k ∧ A.length = k ∧ readG (N - k) t' A = Z ∧ wr.ownsRow n0 124 2 vo k (itCs A) ∧ TR wr g K t'.1 t'.2 ∧ Fr (fun b => b = g) w wr ∧ ∀ p ∈ A, okS p.1 ∧ okI p.2) (fun _ vi _ => N - (intOf vi).toNat)
  case atStart => exact ⟨0, [], q2, Nat.zero_le _, rfl, rfl, HZ.out, World.ownsRow_nil _ _ _ _, H1.out, H2.out, fun p hp => by cases hp⟩
  case round =>
    obtain ⟨k, A, t', hk, rfl, hAl, hZk, hO, hT, hF, hok⟩ := hrel
    have HAL := Lib.hid hAl; have HZK := Lib.hid hZk; have HO := Lib.hid hO; have HT := Lib.hid hT; have HF := Lib.hid hF; have HOK := Lib.hid hok
    obtain ⟨oa, oc, rfl⟩ := row_sl hO
    obtain ⟨tv, t1, -, -, -⟩ := id hT
    have b1 := cell_obj t1 1 (.bool t'.2) rfl
    have hsz : n0 ≤ wr.heap.size := by have := HF.out.size; have := HS.out; omega
    have HSZ := Lib.hid hsz
    clear hAl hZk hO hT hF hok t1 hsz
    by_cases hgo : k < N ∧ t'.2 = false
    · obtain ⟨hlt, hb⟩ := hgo
      rw [hb] at b1
      have hkI : (k : Int) < N := by omega
      have hstep : Hid (readG (N - (k + 1)) (rit1 t').2 (A ++ [(rit1 t').1]) = Z) := Lib.hid (by
        have e : N - k = (N - (k + 1)) + 1 := by omega
        have hz := HZK.out
        rw [e] at hz
        unfold readG at hz
        rw [if_neg (by rw [hb]; simp)] at hz
        exact hz)
      have hit := rit1_ok t'
      have hTx := Lib.hid (fun W (h : TR W g K t'.1 t'.2) => rText W g K t' 16 h (by omega))
      have hgl := rit1_ok t'
      unfold rit1 at hstep hgl
      obtain ⟨T1, hT1⟩ : ∃ T, tkR t' 16 = T := ⟨_, rfl⟩
      rw [hT1] at hTx hstep hgl
      obtain ⟨gd, t2⟩ := T1
      dsimp only at hTx hstep hgl
      have hNx := Lib.hid (fun W (h : TR W g K t2.1 t2.2) => rTk W g K t2 1 1099511627776 h)
      obtain ⟨T2, hT2⟩ : ∃ T, tk t2 1 1099511627776 = T := ⟨_, rfl⟩
      rw [hT2] at hNx hstep hgl
      obtain ⟨nn, t3⟩ := T2
      dsimp only at hNx hstep hgl
      have HGL := Lib.hid hgl
      obtain ⟨nb, hnb⟩ : ∃ nb, wr.heap.size = nb := ⟨_, rfl⟩
      have HNB := Lib.hid hnb
      obtain ⟨W0, hW0⟩ : ∃ W0, wr.alloc (.cells #[.string ⟨#[]⟩, .int .i64 0] 124) = W0 := ⟨_, rfl⟩
      have hf0 : Fr (fun _ => False) wr W0 := by rw [← hW0]; exact (Fr.refl _ wr).alloc _
      have hx0 : W0.heap[nb]? = some (.cells #[.string ⟨#[]⟩, .int .i64 0] 124) := by rw [← hW0]; exact heap_at hnb.symm _
      have HF0 := Lib.hid hf0; have HX0 := Lib.hid hx0
      have b1 := hf0.cell b1 (fun e => e)
      have c0 := cell_obj hx0 0 (.string ⟨#[]⟩) rfl; have c1 := cell_obj hx0 1 (.int .i64 0) rfl
      have f0 := obj_frozen hx0 0; have f1 := obj_frozen hx0 1
      clear hit hgl hT1 hT2 hlt hb hf0 hx0
      go_wp2_with fail
      obtain ⟨W1, hW1⟩ : ∃ W1, (W0.setCell ⟨nb, 0, none⟩ (.string ⟨#[]⟩)).setCell ⟨nb, 1, none⟩ (.int .i64 0) = W1 := ⟨_, rfl⟩
      (try rw [hW1])
      have hF1 : Fr (fun b => b = nb) wr W1 := by
        rw [← hW1]
        exact Fr.setCell (S := fun b => b = nb) (Fr.setCell (S := fun b => b = nb) (HF0.out.mono (fun _ _ e => e.elim)) (p := ⟨nb, 0, none⟩) (fun _ => rfl) _) (p := ⟨nb, 1, none⟩) (fun _ => rfl) _
      have hX1 : W1.heap[nb]? = some (.cells #[.string ⟨#[]⟩, .int .i64 0] 124) := by
        rw [← hW1, obj_set (obj_set HX0.out 0 _) 1 _]; rfl
      have hg0 : Hid (g ≠ nb ∧ (∀ b, K b → b ≠ nb) ∧ n0 ≤ nb) := Lib.hid (by
        have := HG.out; have := HSZ.out; have := HS.out; have := HNB.out
        exact ⟨by omega, fun b hb => by have := HKK.out b hb; omega, by omega⟩)
      have hT1 : TR W1 g K t'.1 t'.2 := HT.out.fr hF1 hg0.out.1 hg0.out.2.1
      have hO1 := hF1.row HO.out (fun b hb e => by have := (HO.out.lt b hb).2; have := HNB.out; omega)
      have HF1 := Lib.hid hF1; have HX1 := Lib.hid hX1; have HT1 := Lib.hid hT1; have HO1 := Lib.hid hO1
      clear hF1 hX1 hT1 hO1 hW1 hW0 c0 c1 f0 f1 b1
      refine (hTx.out W1 HT1.out).mono ?_
      rintro e w4 ⟨rfl, ht4, hf4⟩
      have hX4 := hf4.at_ HX1.out (fun e => hg0.out.1 e.symm)
      have hO4 := hf4.row HO1.out (fun b hb e => by have := (HO.out.lt b hb).1; have := HG.out; have := HS.out; have e : b = g := e; omega)
      have HT4 := Lib.hid ht4; have HF4 := Lib.hid hf4; have HX4 := Lib.hid hX4; have HO4 := Lib.hid hO4
      have c0 := cell_obj hX4 0 (.string ⟨#[]⟩) rfl; have c1 := cell_obj hX4 1 (.int .i64 0) rfl
      have f0 := obj_frozen hX4 0; have f1 := obj_frozen hX4 1
      clear ht4 hf4 hX4 hO4
      go_wp2_with fail
      obtain ⟨W5, hW5⟩ : ∃ W5, w4.setCell ⟨nb, 0, none⟩ (vS gd) = W5 := ⟨_, rfl⟩
      rw [hW5]
      have hF5 : Fr (fun b => b = nb) w4 W5 := by rw [← hW5]; exact (Fr.refl (fun b => b = nb) w4).setCell (p := ⟨nb, 0, none⟩) (fun _ => rfl) _
      have hX5 : W5.heap[nb]? = some (.cells #[vS gd, .int .i64 0] 124) := by rw [← hW5, obj_set HX4.out 0 _]; rfl
      have hT5 : TR W5 g K t2.1 t2.2 := HT4.out.fr hF5 hg0.out.1 hg0.out.2.1
      have hO5 := hF5.row HO4.out (fun b hb e => by have := (HO.out.lt b hb).2; have := HNB.out; have e : b = nb := e; omega)
      have HF5 := Lib.hid hF5; have HX5 := Lib.hid hX5; have HT5 := Lib.hid hT5; have HO5 := Lib.hid hO5
      clear hF5 hX5 hT5 hO5 hW5 c0 c1 f0 f1
      refine (hNx.out W5 HT5.out).mono ?_
      rintro e w6 ⟨rfl, ht6, hf6⟩
      have hX6 := hf6.at_ HX5.out (fun e => hg0.out.1 e.symm)
      have hO6 := hf6.row HO5.out (fun b hb e => by have := (HO.out.lt b hb).1; have := HG.out; have := HS.out; have e : b = g := e; omega)
      have HT6 := Lib.hid ht6; have HF6 := Lib.hid hf6; have HX6 := Lib.hid hX6; have HO6 := Lib.hid hO6
      have c0 := cell_obj hX6 0 (vS gd) rfl; have c1 := cell_obj hX6 1 (.int .i64 0) rfl
      have f1 := obj_frozen hX6 1
      have hX7 : (w6.setCell ⟨nb, 1, none⟩ (.int .i64 nn)).heap[nb]? = some (.cells #[vS gd, .int .i64 nn] 124) := by rw [obj_set HX6.out 1 _]; rfl
      obtain ⟨W7, hW7⟩ : ∃ W7, w6.setCell ⟨nb, 1, none⟩ (.int .i64 nn) = W7 := ⟨_, rfl⟩
      have hF7 : Fr (fun b => b = nb) w6 W7 := by rw [← hW7]; exact (Fr.refl (fun b => b = nb) w6).setCell (p := ⟨nb, 1, none⟩) (fun _ => rfl) _
      rw [hW7] at hX7
      have hT7 : TR W7 g K t3.1 t3.2 := HT6.out.fr hF7 hg0.out.1 hg0.out.2.1
      have hO7 := hF7.row HO6.out (fun b hb e => by have := (HO.out.lt b hb).2; have := HNB.out; have e : b = nb := e; omega)
      have HF7 := Lib.hid hF7; have HT7 := Lib.hid hT7; have HO7 := Lib.hid hO7
      have d0 := cell_obj hX7 0 (vS gd) rfl; have d1 := cell_obj hX7 1 (.int .i64 nn) rfl
      have hF7A : Hid (Fr (fun b => b = g) w W7) := Lib.hid (((((HF.out.trans' HF1.out (fun b hb e => by have e : b = nb := e; have := hg0.out.2.2; have := HS.out; omega)).trans HF4.out).trans' HF5.out (fun b hb e => by have e : b = nb := e; have := hg0.out.2.2; have := HS.out; omega)).trans HF6.out).trans' HF7.out (fun b hb e => by have e : b = nb := e; have := hg0.out.2.2; have := HS.out; omega))
      clear ht6 hf6 hX6 hO6 hF7 hX7 hT7 hO7
      go_wp2_with (at_builtin; refine wpList_append_src rfl _ _ 65 rfl n0 124 i0 (.agg #[.string ⟨#[]⟩, .int .i64 0]) 24 Tryz.underlying65 hi' hz0 hz1 hz2 rfl (by decide) (Value.slice oa k oc) k (itCs A) rfl (((Fr.refl (fun _ => False) W7).alloc _).row HO7.out (fun _ _ e => e)) 1 rfl (rd_obj (cs := [vS gd, .int .i64 nn]) (heap_new _ _) rfl) (by intro u hu; simp only [List.mem_cons, List.not_mem_nil, or_false] at hu; rcases hu with rfl | rfl <;> rfl) (by unfold maxLen; omega) (by omega) (by have := HS.out; have := hF7A.out.size; simp; omega) ?_; intro v8 w8 hown8 hgrow8 hloc8; have HO8 := Lib.hid hown8; have hfr8 : Fr (fun c => n0 ≤ c) W7 w8 := (((Fr.refl (fun c => n0 ≤ c) W7).alloc _).trans' (Fr.grown (S := fun c => n0 ≤ c) hgrow8 (fun r hr _ => (HO7.out.lt r hr).1)) (fun _ _ e => e)); have HFR8 := Lib.hid hfr8; clear hown8 hgrow8 hloc8 hfr8)
      go_roundw
      case rel =>
        refine ⟨k + 1, A ++ [(gd, nn)], t3, by omega, by go_num, by rw [List.length_append, HAL.out]; rfl, hstep.out, ?_, ?_, ?_, ?_⟩
        · rw [itCs_snoc]; exact HO8.out
        · exact HT7.out.fr HFR8.out (fun e => by have := HG.out; have := HS.out; have e : n0 ≤ g := e; omega) (fun b hb e => by have := HKK.out b hb; have := HS.out; have e : n0 ≤ b := e; omega)
        · exact hF7A.out.trans' HFR8.out (fun b hb e => by have := HS.out; have e : n0 ≤ b := e; omega)
        · intro p hp
          rcases List.mem_append.1 hp with hp | hp
          · exact HOK.out p hp
          · rw [List.mem_singleton.1 hp]; exact HGL.out
      case measure => simp [intOf]; omega
    · have hZe : Z = (A, t') := by
        rw [← HZK.out]
        by_cases e : t'.2 = true
        · exact readG_bad _ _ e
        · have : N - k = 0 := by
            by_cases h : k < N
            · exact absurd ⟨h, by simpa using e⟩ hgo
            · omega
          rw [this]
          rfl
      have HZE := Lib.hid hZe
      cases hb : t'.2 with
      | true =>
        rw [hb] at b1
        have hres : Hid ((!Z.2.2 && mayL Z.1) = false) := Lib.hid (by rw [hZe]; dsimp only; rw [hb]; rfl)
        clear hZe
        by_cases hlt : k < N
        · have hkI : (k : Int) < N := by omega
          clear hgo
          go_wp2_with fail
          rw [← HPP.out]
          have e := HZE.out
          have e2 := hres.out
          exact ⟨_, by first | (rw [e2]; done) | (rw [e2]; rfl), by rw [e]; dsimp only; rw [HAL.out]; exact HO.out, by rw [e]; exact HT.out, HF.out, by rw [e]; exact HOK.out⟩
        · have hkI : ¬ (k : Int) < N := by omega
          clear hgo
          go_wp2_with fail
          rw [← HPP.out]
          have e := HZE.out
          have e2 := hres.out
          exact ⟨_, by first | (rw [e2]; done) | (rw [e2]; rfl), by rw [e]; dsimp only; rw [HAL.out]; exact HO.out, by rw [e]; exact HT.out, HF.out, by rw [e]; exact HOK.out⟩
      | false =>
        rw [hb] at b1
        have hkI : ¬ (k : Int) < N := by
          intro h
          exact hgo ⟨by omega, hb⟩
        have hres : Hid ((!Z.2.2 && mayL Z.1) = mayL A) := Lib.hid (by rw [hZe]; dsimp only; rw [hb]; rfl)
        have HIL := Lib.hid (Il.own (L := A) (by rw [HAL.out]; exact HO.out) HOK.out)
        have hM := Lib.hid (r6May wr _ A HIL.out.1)
        obtain ⟨mb, hmb⟩ : ∃ mb, mayL A = mb := ⟨_, rfl⟩
        rw [hmb] at hM hres
        clear hgo hZe hmb
        go_wp2_with (go_at_call 112; refine hM.out.mono ?_; rintro e w2 ⟨rfl, nd, rfl⟩)
        rw [← HPP.out]
        have e := HZE.out
        have e2 := hres.out
        have hfd : Fr (fun _ => False) wr (wr.drewN nd) := by first | exact Fr.drewN _ _ | (induction nd with | zero => exact Fr.refl _ _ | succ m ih => exact ih.drew)
        exact ⟨_, by first | (rw [e2]; done) | (rw [e2]; rfl), by rw [e]; dsimp only; rw [HAL.out]; exact hfd.row HO.out (fun _ _ e => e), by rw [e]; exact HT.out.fr hfd (fun e => e) (fun _ _ e => e), HF.out.trans' hfd (fun _ _ e => e.elim), by rw [e]; exact HOK.out⟩
end Go.Proofs.YtlniekobijcanaaGreat
namespace Go.Proofs.YtlniekobijcanaaGreat
open Go.RowKit Go.Maps
def lastB (B : List BI) : Nat → Int
  | 0 => 0
  | k + 1 => match B[k]? with | some b => b.nu | none => 0
theorem lastB_succ {B : List BI} {k : Nat} {b : BI} (h : B[k]? = some b) : lastB B (k + 1) = b.nu := by
  show (match B[k]? with | some b => b.nu | none => 0) = b.nu
  rw [h]
theorem bOkL_no {last : Int} {b : BI} {r : List BI} (h : b.nu < 1 ∨ 4096 < b.nu ∨ b.zo < 0 ∨ 15 < b.zo ∨ b.ro < 1 ∨ 1099511627776 < b.ro ∨ b.nu ≤ last) : bOkL last (b :: r) = false := by
  show (mayBinF b.nu b.zo b.ro && decide (last < b.nu) && bOkL b.nu r) = false
  unfold mayBinF
  rw [Bool.eq_false_iff]
  intro e
  simp only [Bool.and_eq_true, decide_eq_true_eq] at e
  omega
theorem bOkL_yes {last : Int} {b : BI} {r : List BI} (h : 1 ≤ b.nu ∧ b.nu ≤ 4096 ∧ 0 ≤ b.zo ∧ b.zo ≤ 15 ∧ 1 ≤ b.ro ∧ b.ro ≤ 1099511627776 ∧ last < b.nu) : bOkL last (b :: r) = bOkL b.nu r := by
  show (mayBinF b.nu b.zo b.ro && decide (last < b.nu) && bOkL b.nu r) = _
  unfold mayBinF
  obtain ⟨h1, h2, h3, h4, h5, h6, h7⟩ := h
  simp [h1, h2, h3, h4, h5, h6, h7]
set_option maxRecDepth 100000 in
set_option maxHeartbeats 8000000 in
theorem rMay (w : World) (v : Value) (B : List BI) (h : Sbi w v B) : Calls Tryz.prog 12 #[v] w fun e w' => e = .returned (.bool (mayBs B)) ∧ Fr (fun _ => False) w w' := by
  obtain ⟨a, c, rfl⟩ := h.sl
  have HB := Lib.hid h
  have hlen := h.len
  obtain ⟨N, hN⟩ : ∃ N, B.length = N := ⟨_, rfl⟩
  have HN := Lib.hid hN
  rw [hN] at hlen ⊢
  have hMB : Hid (mayBs B = (decide (1 ≤ N) && decide (N ≤ 64) && bOkL 0 B)) := Lib.hid (by unfold mayBs; rw [hN])
  obtain ⟨R, hR⟩ : ∃ R, mayBs B = R := ⟨_, rfl⟩
  rw [hR] at hMB ⊢
  clear h hN hR
  go_enter Tryz.func12, Tryz.ntmps12
  go_wp2_with fail
  go_loopw [3] (fun vi wr => ∃ (k : Nat), k ≤ N ∧ vi = .int .i64 k ∧ bOkL 0 B = bOkL (lastB B k) (B.drop k) ∧ Fr (fun _ => False) w wr) (fun vi _ => N - (intOf vi).toNat)
  case atStart => exact ⟨0, Nat.zero_le _, rfl, rfl, Fr.refl _ _⟩
  case round =>
    obtain ⟨k, hk, rfl, hbo, hfr⟩ := hrel
    have HBO := Lib.hid hbo; have HFR := Lib.hid hfr
    by_cases hlt : k < N
    · obtain ⟨b, hb⟩ : ∃ b, B[k]? = some b := ⟨B[k]'(by rw [HN.out]; exact hlt), List.getElem?_eq_getElem _⟩
      have HDR := Lib.hid (drop_at hb)
      obtain ⟨ad, rfl, hok, z0, zs⟩ := (HB.out.fr0 okBiKeeps hfr).at_ hb
      have x0 := z0 (.int .i64 b.nu) rfl
      have x1 := zs 0 (.int .i64 b.zo) rfl
      have x2 := zs 1 (.int .i64 b.ro) rfl
      dsimp only [Nat.zero_add, Nat.reduceAdd] at x0 x1 x2
      have hkI : (k : Int) < N := by omega
      have HBB := Lib.hid hb
      have hnxt := Lib.hid (lastB_succ hb)
      have hk1 : Hid (k + 1 ≤ N) := Lib.hid hlt
      rcases Nat.eq_zero_or_pos k with hk0 | hk0
      · have hl0 : Hid (lastB B k = 0) := Lib.hid (by rw [hk0]; rfl)
        have hkz : ¬ (0 : Int) < k := by omega
        have hkn : ¬ 0 < k := by omega
        have hkd : decide (0 < k) = false := by simp [hk0]
        clear hk0
        have HNO : Hid ((b.nu < 1 ∨ 4096 < b.nu ∨ b.zo < 0 ∨ 15 < b.zo ∨ b.ro < 1 ∨ 1099511627776 < b.ro ∨ b.nu ≤ 0) → R = false) := Lib.hid (fun e => by rw [hMB.out, HBO.out, HDR.out, bOkL_no (by rw [hl0.out]; exact e)]; simp)
        clear hb hok z0 zs hbo hfr
        go_wp2_with fail
        obtain ⟨W5, hW5⟩ : ∃ W, wr.alloc (.cells #[.int .i64 b.nu, .int .i64 b.zo, .int .i64 b.ro] 36) = W := ⟨_, rfl⟩
        obtain ⟨m0, hm0⟩ : ∃ n, wr.heap.size = n := ⟨_, rfl⟩
        have hF5 : Fr (fun _ => False) wr W5 := by rw [← hW5]; exact (Fr.refl _ wr).alloc _
        have HF5 := Lib.hid (HFR.out.trans hF5)
        have hx5 : W5.heap[m0]? = some (.cells #[.int .i64 b.nu, .int .i64 b.zo, .int .i64 b.ro] 36) := by rw [← hW5]; exact heap_at hm0.symm _
        rw [hW5, hm0]
        have z0 := cell_obj hx5 0 (.int .i64 b.nu) rfl; have z1 := cell_obj hx5 1 (.int .i64 b.zo) rfl; have z2 := cell_obj hx5 2 (.int .i64 b.ro) rfl
        clear x0 x1 x2 hW5 hm0 hx5
        have z0 := FrW.cell z0; have z1 := FrW.cell z1; have z2 := FrW.cell z2
        by_cases h1 : b.nu < 1
        · skip
          refine wp_region_fr (by kernel_rfl) (by kernel_rfl) ?_
          repeat (go_big_quiet_step (fail))
          refine wpQuiet_nil ?_
          rintro V ⟨⟨_, hV⟩, rfl⟩
          go_wp2_with fail
          go_ret
          exact ⟨by rw [HNO.out (by omega)]; rfl, HF5.out.trans hV⟩
        by_cases h2 : 4096 < b.nu
        · skip
          refine wp_region_fr (by kernel_rfl) (by kernel_rfl) ?_
          repeat (go_big_quiet_step (fail))
          refine wpQuiet_nil ?_
          rintro V ⟨⟨_, hV⟩, rfl⟩
          go_wp2_with fail
          go_ret
          exact ⟨by rw [HNO.out (by omega)]; rfl, HF5.out.trans hV⟩
        by_cases h3 : b.zo < 0
        · skip
          refine wp_region_fr (by kernel_rfl) (by kernel_rfl) ?_
          repeat (go_big_quiet_step (fail))
          refine wpQuiet_nil ?_
          rintro V ⟨⟨_, hV⟩, rfl⟩
          go_wp2_with fail
          go_ret
          exact ⟨by rw [HNO.out (by omega)]; rfl, HF5.out.trans hV⟩
        by_cases h4 : 15 < b.zo
        · skip
          refine wp_region_fr (by kernel_rfl) (by kernel_rfl) ?_
          repeat (go_big_quiet_step (fail))
          refine wpQuiet_nil ?_
          rintro V ⟨⟨_, hV⟩, rfl⟩
          go_wp2_with fail
          go_ret
          exact ⟨by rw [HNO.out (by omega)]; rfl, HF5.out.trans hV⟩
        by_cases h5 : b.ro < 1
        · skip
          refine wp_region_fr (by kernel_rfl) (by kernel_rfl) ?_
          repeat (go_big_quiet_step (fail))
          refine wpQuiet_nil ?_
          rintro V ⟨⟨_, hV⟩, rfl⟩
          go_wp2_with fail
          go_ret
          exact ⟨by rw [HNO.out (by omega)]; rfl, HF5.out.trans hV⟩
        by_cases h6 : 1099511627776 < b.ro
        · skip
          refine wp_region_fr (by kernel_rfl) (by kernel_rfl) ?_
          repeat (go_big_quiet_step (fail))
          refine wpQuiet_nil ?_
          rintro V ⟨⟨_, hV⟩, rfl⟩
          go_wp2_with fail
          go_ret
          exact ⟨by rw [HNO.out (by omega)]; rfl, HF5.out.trans hV⟩
        refine wp_region_fr (by kernel_rfl) (by kernel_rfl) ?_
        repeat (go_big_quiet_step (fail))
        refine wpQuiet_nil ?_
        rintro V ⟨⟨_, hV⟩, rfl⟩
        go_wp2_with fail
        go_roundw
        case rel => exact ⟨_, hk1.out, by go_num, by rw [HBO.out, HDR.out, bOkL_yes (by rw [hl0.out]; omega), hnxt.out], HF5.out.trans hV⟩
        case measure => simp [intOf]; omega
      · obtain ⟨j, rfl⟩ : ∃ j, k = j + 1 := ⟨k - 1, by omega⟩
        have hkz : (0 : Int) < ((j + 1 : Nat) : Int) := by omega
        have hjk : ((j + 1 : Nat) : Int) - 1 = (j : Int) := by omega
        obtain ⟨p, hp⟩ : ∃ p, B[j]? = some p := ⟨B[j]'(by rw [HN.out]; omega), List.getElem?_eq_getElem _⟩
        obtain ⟨ad', e', -, y0, -⟩ := (HB.out.fr0 okBiKeeps hfr).at_ hp
        cases e'
        have y0 := y0 (.int .i64 p.nu) rfl
        have hlast := Lib.hid (lastB_succ hp)
        have HNO : Hid ((b.nu < 1 ∨ 4096 < b.nu ∨ b.zo < 0 ∨ 15 < b.zo ∨ b.ro < 1 ∨ 1099511627776 < b.ro ∨ b.nu ≤ p.nu) → R = false) := Lib.hid (fun e => by rw [hMB.out, HBO.out, HDR.out, bOkL_no (by rw [hlast.out]; exact e)]; simp)
        clear hb hok z0 zs hbo hfr hp
        go_wp2_with fail
        obtain ⟨W5, hW5⟩ : ∃ W, wr.alloc (.cells #[.int .i64 b.nu, .int .i64 b.zo, .int .i64 b.ro] 36) = W := ⟨_, rfl⟩
        obtain ⟨m0, hm0⟩ : ∃ n, wr.heap.size = n := ⟨_, rfl⟩
        have hF5 : Fr (fun _ => False) wr W5 := by rw [← hW5]; exact (Fr.refl _ wr).alloc _
        have HF5 := Lib.hid (HFR.out.trans hF5)
        have hx5 : W5.heap[m0]? = some (.cells #[.int .i64 b.nu, .int .i64 b.zo, .int .i64 b.ro] 36) := by rw [← hW5]; exact heap_at hm0.symm _
        rw [hW5, hm0]
        have z0 := cell_obj hx5 0 (.int .i64 b.nu) rfl; have z1 := cell_obj hx5 1 (.int .i64 b.zo) rfl; have z2 := cell_obj hx5 2 (.int .i64 b.ro) rfl
        clear x0 x1 x2 hW5 hm0 hx5
        have z0 := FrW.cell z0; have z1 := FrW.cell z1; have z2 := FrW.cell z2; have y0 := FrW.cell (hF5.cell y0 (fun e => e))
        by_cases h1 : b.nu < 1
        · skip
          refine wp_region_fr (by kernel_rfl) (by kernel_rfl) ?_
          repeat (go_big_quiet_step (fail))
          refine wpQuiet_nil ?_
          rintro V ⟨⟨_, hV⟩, rfl⟩
          go_wp2_with fail
          go_ret
          exact ⟨by rw [HNO.out (by omega)]; rfl, HF5.out.trans hV⟩
        by_cases h2 : 4096 < b.nu
        · skip
          refine wp_region_fr (by kernel_rfl) (by kernel_rfl) ?_
          repeat (go_big_quiet_step (fail))
          refine wpQuiet_nil ?_
          rintro V ⟨⟨_, hV⟩, rfl⟩
          go_wp2_with fail
          go_ret
          exact ⟨by rw [HNO.out (by omega)]; rfl, HF5.out.trans hV⟩
        by_cases h3 : b.zo < 0
        · skip
          refine wp_region_fr (by kernel_rfl) (by kernel_rfl) ?_
          repeat (go_big_quiet_step (fail))
          refine wpQuiet_nil ?_
          rintro V ⟨⟨_, hV⟩, rfl⟩
          go_wp2_with fail
          go_ret
          exact ⟨by rw [HNO.out (by omega)]; rfl, HF5.out.trans hV⟩
        by_cases h4 : 15 < b.zo
        · skip
          refine wp_region_fr (by kernel_rfl) (by kernel_rfl) ?_
          repeat (go_big_quiet_step (fail))
          refine wpQuiet_nil ?_
          rintro V ⟨⟨_, hV⟩, rfl⟩
          go_wp2_with fail
          go_ret
          exact ⟨by rw [HNO.out (by omega)]; rfl, HF5.out.trans hV⟩
        by_cases h5 : b.ro < 1
        · skip
          refine wp_region_fr (by kernel_rfl) (by kernel_rfl) ?_
          repeat (go_big_quiet_step (fail))
          refine wpQuiet_nil ?_
          rintro V ⟨⟨_, hV⟩, rfl⟩
          go_wp2_with fail
          go_ret
          exact ⟨by rw [HNO.out (by omega)]; rfl, HF5.out.trans hV⟩
        by_cases h6 : 1099511627776 < b.ro
        · skip
          refine wp_region_fr (by kernel_rfl) (by kernel_rfl) ?_
          repeat (go_big_quiet_step (fail))
          refine wpQuiet_nil ?_
          rintro V ⟨⟨_, hV⟩, rfl⟩
          go_wp2_with fail
          go_ret
          exact ⟨by rw [HNO.out (by omega)]; rfl, HF5.out.trans hV⟩
        by_cases h7 : b.nu ≤ p.nu
        · skip
          refine wp_region_fr (by kernel_rfl) (by kernel_rfl) ?_
          repeat (go_big_quiet_step (fail))
          refine wpQuiet_nil ?_
          rintro V ⟨⟨_, hV⟩, rfl⟩
          go_wp2_with fail
          go_ret
          exact ⟨by rw [HNO.out (by omega)]; rfl, HF5.out.trans hV⟩
        refine wp_region_fr (by kernel_rfl) (by kernel_rfl) ?_
        repeat (go_big_quiet_step (fail))
        refine wpQuiet_nil ?_
        rintro V ⟨⟨_, hV⟩, rfl⟩
        go_wp2_with fail
        go_roundw
        case rel => exact ⟨_, hk1.out, by go_num, by rw [HBO.out, HDR.out, bOkL_yes (by rw [hlast.out]; omega), hnxt.out], HF5.out.trans hV⟩
        case measure => simp [intOf]; omega
    · obtain rfl : k = N := by omega
      have hkI : ¬ (k : Int) < k := by omega
      have hok : Hid (bOkL 0 B = true) := Lib.hid (by rw [hbo, List.drop_of_length_le (by rw [HN.out]; exact Nat.le_refl _)]; rfl)
      clear hbo hfr
      by_cases h1 : 1 ≤ k
      · have h1I : decide ((1 : Int) ≤ k) = true := by simp; omega
        by_cases h2 : k ≤ 64
        · have h2I : decide ((k : Int) ≤ 64) = true := by simp; omega
          have hr : Hid (R = true) := Lib.hid (by rw [hMB.out, hok.out]; simp [h1, h2])
          go_wp2_with fail
          go_ret
          exact ⟨by rw [hr.out]; rfl, HFR.out⟩
        · have h2I : decide ((k : Int) ≤ 64) = false := by simp; omega
          have hr : Hid (R = false) := Lib.hid (by rw [hMB.out, hok.out]; simp [h2])
          go_wp2_with fail
          go_ret
          exact ⟨by rw [hr.out]; rfl, HFR.out⟩
      · have h1I : decide ((1 : Int) ≤ k) = false := by simp; omega
        have hr : Hid (R = false) := Lib.hid (by rw [hMB.out, hok.out]; simp [h1])
        go_wp2_with fail
        go_ret
        exact ⟨by rw [hr.out]; rfl, HFR.out⟩
end Go.Proofs.YtlniekobijcanaaGreat
namespace Go.Proofs.YtlniekobijcanaaGreat
open Go.RowKit Go.Maps
theorem infoRow27 : (Tryz.prog.info? 82).map (fun i => (i.zero, i.size, i.bytes)) = some (some (.agg #[.int .i64 0, .int .i64 0, .int .i64 0, .slice none 0 0]), 4, 48) := by kernel_rfl
/-- What New leaves. -/
def RnP (w : World) (B : List BI) (e : Ending) (w' : World) : Prop :=
  ∃ g vr, e = .returned (.pointer (some ⟨g, 0, none⟩)) ∧ w.heap.size ≤ g ∧ w'.heap[g]? = some (.cells #[vr] 85) ∧ w'.ownsRow (g + 1) 82 4 vr B.length (flat BV.cs (B.map BI.bv)) ∧ Fr (fun _ => False) w w'
set_option maxRecDepth 100000 in
set_option maxHeartbeats 16000000 in
theorem rNew (w : World) (v : Value) (B : List BI) (h : Sbi w v B) (h64 : B.length ≤ 64) : Calls Tryz.prog 35 #[v] w fun e w' => RnP w B e w' := by
  obtain ⟨i0, hi', hz0, hz1, hz2⟩ := info_parts infoRow27
  obtain ⟨n0, hn0⟩ : ∃ n0, w.heap.size = n0 := ⟨_, rfl⟩
  obtain ⟨a, c, rfl⟩ := h.sl
  have HB := Lib.hid h
  have hlen := h.len
  obtain ⟨N, hN⟩ : ∃ N, B.length = N := ⟨_, rfl⟩
  have HN := Lib.hid hN
  obtain ⟨PP, hPP⟩ : ∃ PP, RnP w B = PP := ⟨_, rfl⟩
  have HPP := Lib.hid hPP
  rw [hPP]
  rw [hN] at hlen h64 ⊢
  have HN64 := Lib.hid h64
  obtain ⟨W0, hW0⟩ : ∃ W0, w.alloc (.cells #[.slice none 0 0] 85) = W0 := ⟨_, rfl⟩
  have hf0 : Fr (fun _ => False) w W0 := by rw [← hW0]; exact (Fr.refl _ w).alloc _
  have hx0 : W0.heap[n0]? = some (.cells #[.slice none 0 0] 85) := by rw [← hW0]; exact heap_at hn0.symm _
  have HF0 := Lib.hid hf0; have HX0 := Lib.hid hx0; have HN0 := Lib.hid hn0
  have HS0 : Hid (W0.heap.size = n0 + 1) := Lib.hid (by rw [← hW0]; simp; omega)
  clear h hN hf0 hx0 hPP
  go_enter Tryz.func35, Tryz.ntmps35
  go_wp2_with fail
  go_loopw [4] (fun vi wr => ∃ (k : Nat) (vr : Value), k ≤ N ∧ vi = .int .i64 k ∧ wr.heap[n0]? = some (.cells #[vr] 85) ∧ wr.ownsRow (n0 + 1) 82 4 vr k (flat BV.cs ((B.take k).map BI.bv)) ∧ Fr (fun _ => False) w wr) (fun vi _ => N - (intOf vi).toNat)
  case atStart => exact ⟨0, .slice none 0 0, Nat.zero_le _, rfl, HX0.out, World.ownsRow_nil _ _ _ _, HF0.out⟩
  case round =>
    obtain ⟨k, vr, hk, rfl, hob, hown, hfr⟩ := hrel
    have HGO := Lib.hid hob; have HOW2 := Lib.hid hown; have HF2 := Lib.hid hfr
    obtain ⟨ra, rc, rfl⟩ := row_sl hown
    by_cases hlt : k < N
    · obtain ⟨b, hb⟩ : ∃ b, B[k]? = some b := ⟨B[k]'(by rw [HN.out]; exact hlt), List.getElem?_eq_getElem _⟩
      obtain ⟨ad, rfl, hok, z0, zs⟩ := (HB.out.fr0 okBiKeeps hfr).at_ hb
      have x0 := z0 (.int .i64 b.nu) rfl
      have x1 := zs 0 (.int .i64 b.zo) rfl
      have x2 := zs 1 (.int .i64 b.ro) rfl
      dsimp only [Nat.zero_add, Nat.reduceAdd] at x0 x1 x2
      have hkI : (k : Int) < N := by omega
      have HBB := Lib.hid hb
      have g0 := cell_obj hob 0 (.slice ra k rc) rfl
      clear hb hok z0 zs hob hown hfr
      go_wp2_with fail
      refine wp_region_eff [(10, true), (11, false), (14, false)] [0, 1, 12, 13] 8 (by kernel_rfl) rfl (by kernel_rfl) (by kernel_rfl) ?_
      apply Exists.intro
      refine ⟨?hh, ?pu, ?ef⟩
      case hh =>
        intro X
        have g0 := FrW.cell (X.fr.cell g0 (fun e => e)); have x0 := FrW.cell (X.fr.cell x0 (fun e => e)); have x1 := FrW.cell (X.fr.cell x1 (fun e => e)); have x2 := FrW.cell (X.fr.cell x2 (fun e => e))
        simp (config := { decide := true }) only [boxedF, efIdx, List.map_cons, List.map_nil, idleU, if_true, if_false, ite_true, ite_false]
        repeat (go_big_quiet_step (fail))
        exact wpQuiet_nil rfl
      case pu =>
        intro i' hi' o ho
        simp only [List.mem_cons, List.not_mem_nil, or_false] at hi'
        rcases hi' with rfl | rfl | rfl | rfl
        all_goals
          cases ho
          apply Exists.intro
          intro w'
          simp [execOp, Act.eval, go_sem]
          try exact rfl
      case ef =>
        simp only [efOps, List.filterMap_cons, List.filterMap_nil, List.getElem?_cons_succ, List.getElem?_cons_zero, Option.map_some]
        clear g0 x0 x1 x2
        intro w3 hw3
        have HW3 := Lib.hid hw3
        clear hw3
        go_wp2_with fail
        refine ⟨(Fr.refl _ _).alloc _, ?_⟩
        intro w4 hw4
        have HW4 := Lib.hid hw4
        have hf24 : Fr (fun _ => False) wr w4 := HW3.out.trans (((Fr.refl (fun _ => False) w3).alloc _).trans hw4)
        have HF24 := Lib.hid hf24
        have hsz4 : n0 + 1 ≤ w4.heap.size := by have h1 := (Array.getElem?_eq_some_iff.1 (hf24.at_ HGO.out (fun e => e))).1; omega
        have HSZ4 := Lib.hid hsz4
        clear hw4 hf24 hsz4
        go_wp2_with (at_builtin; refine wpList_append_src rfl _ _ 83 rfl (n0 + 1) 82 i0 (.agg #[.int .i64 0, .int .i64 0, .int .i64 0, .slice none 0 0]) 48 Tryz.underlying83 hi' hz0 hz1 hz2 rfl (by decide) (.slice ra k rc) k (flat BV.cs ((B.take k).map BI.bv)) rfl (HF24.out.row HOW2.out (fun _ _ e => e)) 1 rfl (rd_obj (cs := [.int .i64 b.nu, .int .i64 b.zo, .int .i64 b.ro, .slice none 0 0]) (HW4.out.at_ (heap_new _ _) (fun e => e)) rfl) (by intro u hu; simp only [List.mem_cons, List.not_mem_nil, or_false] at hu; rcases hu with rfl | rfl | rfl | rfl <;> rfl) (by have := HN64.out; unfold maxLen; omega) (by have := HN64.out; omega) HSZ4.out ?_; intro v5 w5 hown5 hgrow5 hloc5; have HO5 := Lib.hid hown5; have HG5 := Lib.hid (Fr.grown (S := fun c => (Value.slice ra k rc).ownBlock = some c) hgrow5 (fun c hc _ => hc)); obtain ⟨a5, c5, rfl⟩ := row_sl hown5; clear hown5 hgrow5 hloc5)
        intro w6 hw6
        have hlt : ∀ c, (Value.slice ra k rc).ownBlock = some c → n0 + 1 ≤ c ∧ c < wr.heap.size := fun c hc => HOW2.out.lt c hc
        have hgo6 := hw6.at_ (HG5.out.at_ (HF24.out.at_ HGO.out (fun e => e)) (fun e => by have := hlt n0 e; omega)) (fun e => e)
        have gf := obj_frozen hgo6 0
        have g0 := cell_obj hgo6 0 (.slice ra k rc) rfl
        have HO6 := Lib.hid (hw6.row HO5.out (fun _ _ e => e))
        have HGO6 := Lib.hid hgo6
        have HFW : Hid (Fr (fun _ => False) w w6) := Lib.hid (((HF2.out.trans HF24.out).trans' HG5.out (fun c hc e => by have := (hlt c e).1; have := HN0.out; omega)).trans hw6)
        clear hw6 hlt hgo6
        go_wp2_with fail
        have hfs : Fr (fun c => c = n0) w6 (w6.setCell ⟨n0, 0, none⟩ (.slice a5 (k + 1) c5)) := (Fr.refl (fun c => c = n0) w6).setCell (p := ⟨n0, 0, none⟩) (fun _ => rfl) _
        have hgo7 := obj_set HGO6.out 0 (.slice a5 (k + 1) c5)
        have HO7 := Lib.hid (hfs.row HO6.out (fun c hc e => by have := (HO6.out.lt c hc).1; omega))
        have HFS := Lib.hid (HFW.out.trans' hfs (fun c hc e => by have := HN0.out; omega))
        obtain ⟨W7, hW7⟩ : ∃ W, w6.setCell ⟨n0, 0, none⟩ (.slice a5 (k + 1) c5) = W := ⟨_, rfl⟩
        rw [hW7] at hgo7 HO7 HFS ⊢
        have HGO7 := Lib.hid hgo7
        clear g0 gf hfs hgo7 hW7
        intro w8 hw8
        have HW8 := Lib.hid hw8
        clear hw8
        go_wp2_with fail
        go_roundw
        case rel =>
          refine ⟨k + 1, _, by omega, by go_num, HW8.out.at_ HGO7.out (fun e => e), ?_, HFS.out.trans HW8.out⟩
          have h1 := HW8.out.row HO7.out (fun _ _ e => e)
          rw [List.take_add_one, HBB.out]
          show World.ownsRow w8 _ _ _ _ _ (flat BV.cs ((B.take k ++ [b]).map BI.bv))
          rw [List.map_append]
          show World.ownsRow w8 _ _ _ _ _ (flat BV.cs ((B.take k).map BI.bv ++ [b.bv]))
          rw [flat_bv_snoc]
          exact h1
        case measure => simp [intOf]; omega
    · obtain rfl : k = N := by omega
      have hkI : ¬ (k : Int) < k := by omega
      have HR2 : Hid (wr.ownsRow (n0 + 1) 82 4 (.slice ra k rc) k (flat BV.cs (B.map BI.bv))) := Lib.hid (by
        have := HOW2.out
        rw [List.take_of_length_le (by rw [HN.out]; exact Nat.le_refl _)] at this
        exact this)
      clear hob hown hfr
      go_wp2_with fail
      rw [← HPP.out]
      exact ⟨n0, _, rfl, Nat.le_of_eq HN0.out, HGO.out, by rw [HN.out]; exact HR2.out, HF2.out⟩
end Go.Proofs.YtlniekobijcanaaGreat
