/- Texts of this claim, joined: entrepotref06: Norm: that it answers (what it says is not asked); stock: the keys in order, Goods, Fork; stock: Level, Flow, Fork, Count; stock: Count; stock: may; stock: Do; entrepotref07: right, move; stock, plainly: what Do and Count keep; what Do makes of a stock; what is done and undone; entrepotref07: the document's stock; Find, Row; entrepotref07: set; stock: Do: the walk. -/
import Derived.Test.YtogphlnakdnchaaGreatHoldBackM4
import Derived.Test.YtogphlnakdnchaaGreatShelfC
import Derived.Test.YtogphlnakdnchaaGreatHoldBackM1
import Derived.Shelf.Abstract
import Derived.Test.YtogphlnakdnchaaGreatHoldBackM2
import Derived.Handy
import Derived.Deep.QuietTactic
import Derived.BigQuiet
namespace Go.Proofs.YtogphlnakdnchaaGreat
open Go.RowKit Go.Maps
theorem wrap_ok (x : Int) : okI (IntKind.i64.wrap x) := by unfold okI; rw [IntKind.wrap_i64]; omega
/-- What Norm's answer is: a list in new memory, of 16 items at most. -/
structure NormP (w : World) (e : Ending) (w' : World) : Prop where
  ex : ∃ v' L' c, e = .returned (.tuple #[v', .int .i64 c]) ∧ Il w' v' L' ∧ (∀ b, v'.ownBlock = some b → w.heap.size ≤ b ∧ b < w'.heap.size) ∧ L'.length ≤ 16 ∧ Fr (fun _ => False) w w'
set_option maxRecDepth 100000 in
set_option maxHeartbeats 16000000 in
theorem r6Norm (w : World) (v : Value) (L : Its) (h : Il w v L) (hl : L.length ≤ 1000) :
    Calls Tryz.prog 109 #[v] w (NormP w) := by
  have hNil : ∀ W, Il W (.slice none 0 0) [] := fun W => ⟨Nat.zero_le _, none, 0, rfl, fun i p hp => by simp at hp⟩
  have HNIL := Lib.hid hNil
  obtain ⟨a, c, rfl⟩ := h.sl
  obtain ⟨N, hN⟩ : ∃ N, L.length = N := ⟨_, rfl⟩
  rw [hN] at h hl ⊢
  have HL := Lib.hid h; have HN := Lib.hid hN
  have hNI : (N : Int) ≤ 1000 := by omega
  clear h hN hNil
  go_enter Tryz.func109, Tryz.ntmps109
  go_wp2_with fail
  go_loopw [4] (fun i wr => ∃ k : Nat, k ≤ N ∧ i = .int .i64 k ∧ wr = w) (fun i _ => N - (intOf i).toNat)
  case atStart => exact ⟨0, Nat.zero_le _, rfl, rfl⟩
  case round =>
    obtain ⟨k, hk, rfl, rfl⟩ := hrel
    by_cases hlt : k < N
    · obtain ⟨p, hp⟩ : ∃ p, L[k]? = some p := ⟨L[k]'(by rw [HN.out]; exact hlt), List.getElem?_eq_getElem _⟩
      obtain ⟨ad, rfl, hs1, hs2, x0, x1⟩ := HL.out.at_ hp
      obtain ⟨gd, m⟩ := p
      dsimp only at x0 x1 hs1 hs2
      have hltI : (k : Int) < N := by omega
      have HG := Lib.hid (fun W => r6Good W gd hs1)
      have HM := Lib.hid (fun W => r5May W m)
      obtain ⟨g, hg⟩ : ∃ g, goodB gd = g := ⟨_, rfl⟩
      obtain ⟨y, hy⟩ : ∃ y, mayI m = y := ⟨_, rfl⟩
      rw [hg] at HG
      rw [hy] at HM
      clear hg hy hp hs1 hs2
      cases g with
      | false =>
        go_wp2_with (go_at_call 108; refine (HG.out _).mono ?_; rintro e w2 ⟨rfl, rfl⟩)
        go_returns
        exact ⟨⟨_, [], _, rfl, HNIL.out _, fun b hb => (by cases hb), by simp, Fr.refl _ _⟩⟩
      | true =>
        cases y with
        | false =>
          go_wp2_with (first | (go_at_call 108; refine (HG.out _).mono ?_; rintro e w2 ⟨rfl, rfl⟩) | (go_at_call 84; refine (HM.out _).mono ?_; rintro e w2 ⟨rfl, rfl⟩))
          go_returns
          exact ⟨⟨_, [], _, rfl, HNIL.out _, fun b hb => (by cases hb), by simp, Fr.refl _ _⟩⟩
        | true =>
          go_wp2_with (first | (go_at_call 108; refine (HG.out _).mono ?_; rintro e w2 ⟨rfl, rfl⟩) | (go_at_call 84; refine (HM.out _).mono ?_; rintro e w2 ⟨rfl, rfl⟩))
          go_roundw
          case rel => exact ⟨k + 1, by omega, by go_num, (by first | rfl | trivial)⟩
          case measure => simp [intOf]; omega
    · have hltI : ¬ (k : Int) < N := by omega
      clear hlt hk
      obtain ⟨w0, rfl⟩ : ∃ w0, w0 = wr := ⟨_, rfl⟩
      obtain ⟨n0, hn0⟩ : ∃ n0, w0.heap.size = n0 := ⟨_, rfl⟩
      have HN0 := Lib.hid hn0
      clear hn0
      go_wp2_with fail
      go_loopw [5, 6] (fun o i wq => ∃ (j : Nat) (Lo : Its), j ≤ N ∧ i = .int .i64 j ∧ wq.ownsRow n0 65 2 o Lo.length (itCs Lo) ∧ (∀ p ∈ Lo, okS p.1 ∧ okI p.2) ∧ Lo.length ≤ j ∧ Fr (fun _ => False) w0 wq) (fun _ i _ => N - (intOf i).toNat)
      case atStart => exact ⟨0, [], Nat.zero_le _, rfl, World.ownsRow_nil _ _ _ _, fun p hp => (by cases hp), Nat.le_refl _, Fr.refl _ _⟩
      case round =>
        obtain ⟨w1, rfl⟩ : ∃ w1, w1 = wr := ⟨_, rfl⟩
        obtain ⟨j, Lo, hj, rfl, ho, hlo, hll, hf⟩ := hrel
        obtain ⟨oa, oc, eo⟩ := row_sl ho
        obtain ⟨M, hM⟩ : ∃ M, Lo.length = M := ⟨_, rfl⟩
        have HO := Lib.hid ho; have HLO := Lib.hid hlo; have HLL := Lib.hid hll; have HF := Lib.hid hf; have HM := Lib.hid hM
        have hMI : (M : Int) ≤ 1000 := by omega
        rw [hM] at eo
        clear ho hlo hll hf hM
        subst eo
        by_cases hlt : j < N
        · obtain ⟨p, hp⟩ : ∃ p, L[j]? = some p := ⟨L[j]'(by rw [HN.out]; exact hlt), List.getElem?_eq_getElem _⟩
          have hLw := HL.out.fr HF.out (fun b h => h.elim)
          obtain ⟨ad, ea, hs1, hs2, -, -⟩ := hLw.at_ hp
          subst ea
          have HP := Lib.hid hp; have HSS := Lib.hid hs1
          obtain ⟨gd, m⟩ := p
          have hltI : (j : Int) < N := by omega
          clear hLw hp hs1 hs2
          go_wp2_with fail
          go_loopw [7, 8] (fun x i wz => ∃ (k : Nat) (y : Int), k ≤ N ∧ i = .int .i64 k ∧ x = .int .i64 y ∧ okI y ∧ Fr (fun _ => False) w1 wz) (fun _ i _ => N - (intOf i).toNat)
          case atStart => exact ⟨0, 0, Nat.zero_le _, rfl, rfl, by unfold okI; omega, Fr.refl _ _⟩
          case round =>
            obtain ⟨w2, rfl⟩ : ∃ w2, w2 = wr := ⟨_, rfl⟩
            obtain ⟨k, y, hk, rfl, rfl, hy, hf2⟩ := hrel
            have HF2 := Lib.hid hf2; have HY := Lib.hid hy
            have hLw := (HL.out.fr HF.out (fun b h => h.elim)).fr hf2 (fun b h => h.elim)
            obtain ⟨ad', ea', -, -, x0, x1⟩ := hLw.at_ HP.out
            cases ea'
            dsimp only at x0 x1
            clear hf2 hy
            by_cases hkl : k < N
            · obtain ⟨p, hp⟩ : ∃ p, L[k]? = some p := ⟨L[k]'(by rw [HN.out]; exact hkl), List.getElem?_eq_getElem _⟩
              obtain ⟨ad', ea', -, -, y0, y1⟩ := hLw.at_ hp
              cases ea'
              obtain ⟨gk, mk⟩ := p
              dsimp only at y0 y1
              have hkI : (k : Int) < N := by omega
              clear hLw hp
              obtain ⟨z, hz⟩ : ∃ z, IntKind.i64.wrap (y + mk) = z := ⟨_, rfl⟩
              have HZ : Hid (okI z) := Lib.hid (hz ▸ wrap_ok _)
              cases q : (gk == gd) with
              | true =>
                go_wp2_with fail
                go_big_quiet (fail)
                obtain ⟨w3, hw3⟩ : ∃ w3, w2.drewN nq = w3 := ⟨_, rfl⟩
                rw [hw3]
                have hF3 : Fr (fun _ => False) w2 w3 := hw3 ▸ (Fr.refl _ _).drewN _
                have y1 := hF3.cell y1 (fun h => h)
                have HF3 := Lib.hid (HF2.out.trans hF3)
                clear hw3 hF3 x0 x1 y0
                by_cases hzz : 1099511627776 < z
                · go_wp2_with fail
                  go_returns
                  exact ⟨⟨_, [], _, rfl, HNIL.out _, fun b hb => (by cases hb), by simp, HF.out.trans HF3.out⟩⟩
                · go_wp2_with fail
                  go_roundw
                  case rel => exact ⟨k + 1, z, by omega, by go_num, rfl, HZ.out, HF3.out⟩
                  case measure => simp [intOf]; omega
              | false =>
                go_wp2_with fail
                go_big_quiet (fail)
                obtain ⟨w3, hw3⟩ : ∃ w3, w2.drewN nq = w3 := ⟨_, rfl⟩
                rw [hw3]
                have hF3 : Fr (fun _ => False) w2 w3 := hw3 ▸ (Fr.refl _ _).drewN _
                have HF3 := Lib.hid (HF2.out.trans hF3)
                clear hw3 hF3 x0 x1 y0 y1
                go_wp2_with fail
                go_roundw
                case rel => exact ⟨k + 1, y, by omega, by go_num, rfl, HY.out, HF3.out⟩
                case measure => simp [intOf]; omega
            · have hkI : ¬ (k : Int) < N := by omega
              clear hLw
              have hO2 := HF2.out.row HO.out (fun _ _ e => e)
              have HO2 := Lib.hid hO2
              clear hO2
              by_cases hy0 : 0 < y
              · go_wp2_with (go_at_call 124; refine (rPut6 _ n0 _ Lo gd y (by have := HO2.out; rw [← HM.out] at this ⊢; exact this) HLO.out (by rw [HM.out]; omega) HSS.out HY.out).mono ?_; rintro e w4 ⟨v', L', rfl, ho4, hk4, hl4, hf4⟩; have HO4 := Lib.hid ho4; have HK4 := Lib.hid hk4; have HL4 := Lib.hid hl4; have HF4 := Lib.hid hf4; clear ho4 hk4 hl4 hf4)
                go_roundw
                case rel => exact ⟨j + 1, L', by omega, by go_num, own_base HO4.out (by have h1 := HF2.out.size; have h2 := HF.out.size; have := HN0.out; omega), HK4.out, by have h1 := HL4.out; have h2 := HLL.out; omega, (HF.out.trans HF2.out).trans HF4.out⟩
                case measure => simp [intOf]; omega
              · go_wp2_with fail
                go_roundw
                case rel => exact ⟨j + 1, Lo, by omega, by go_num, (by have := HO2.out; rw [← HM.out] at this ⊢; exact this), HLO.out, by have h2 := HLL.out; omega, HF.out.trans HF2.out⟩
                case measure => simp [intOf]; omega
        · have hltI : ¬ (j : Int) < N := by omega
          by_cases h16 : 16 < M
          · have h16I : (16 : Int) < M := by omega
            go_wp2_with fail
            go_returns
            exact ⟨⟨_, [], _, rfl, HNIL.out _, fun b hb => (by cases hb), by simp, HF.out⟩⟩
          · have h16I : ¬ (16 : Int) < M := by omega
            go_wp2_with fail
            go_returns
            have ho := HO.out
            rw [← HM.out] at ho
            have hi := Il.own ho HLO.out
            rw [HM.out] at hi
            exact ⟨⟨_, Lo, _, rfl, hi.1, fun b hb => ⟨by have := (hi.2 b hb).1; have := HN0.out; omega, (hi.2 b hb).2⟩, by rw [HM.out]; omega, HF.out⟩⟩
end Go.Proofs.YtogphlnakdnchaaGreat

namespace Go.Proofs.YtogphlnakdnchaaGreat
open Go.RowKit Go.Maps Go.Sort Go.Shelf Go.Proofs
theorem sortsS (m : Nat) : AnyZ.SortsIn Tryz.prog Tryz.laysSortedS_ren Fence.wide m :=
  ⟨fun blk off cap ss W hH hblk hsz => callsIn_wide.2 (AnyM.slices_Sort_string Tryz.laysSortS blk off cap ss W hH hblk hsz),
   fun p cap W => callsIn_wide.2 (AnyM.slices_Sort_string_none Tryz.laysSortS p cap W)⟩
/-- A map's keys as an iterator, and its sorted row: both contracts, at a map of strings. -/
theorem keysSorted {ν : Type} (w : World) (b : Nat) (enc : ν → Value) (l : List (Str × ν)) (h : Mp Tryz.prog w 9 ktS enc b l) (hl : (l.length : Int) ≤ 1099511627776) :
    CallsIn Fence.wide 5 Tryz.prog 98 #[.map (some b)] w (fun e w' => e = .returned (.func (.func 121) #[] #[.pointer (some ⟨w.heap.size, 0, none⟩)]) ∧ w' = w.alloc (.cells #[.map (some b)] 100)) ∧
    CallsIn Fence.wide 5 Tryz.prog 97 #[.func (.func 121) #[] #[.pointer (some ⟨w.heap.size, 0, none⟩)]] (w.alloc (.cells #[.map (some b)] 100)) (fun e w' => ∃ v, e = .returned v ∧ w'.ownsRow w.heap.size 9 1 v l.length (l.map fun p => vS p.1) ∧ Below w.heap.size w w') := by
  obtain ⟨nn, hown⟩ := id h
  have hord := riseS_of (h.ok (koS Tryz.underlying9)).2
  have hsz : Maps.size (ktS.dat enc l) = l.length := dat_size ktS enc l
  have hk : strKeys (ktS.dat enc l) = l.map (·.1) := strKeys_dat enc l
  have hsort : ∀ ss : List Str, ss.Perm (l.map (·.1)) → ss.mergeSort (fun x y => decide (x ≤ y)) = l.map (·.1) := fun ss hp => strs_sorted hord hp
  have hbl := hown.lt
  have hseq : SeqGives Fence.wide 2 Tryz.prog 121 #[.pointer (some ⟨w.heap.size, 0, none⟩)] encStr (fun ss => ss.Perm (strKeys (ktS.dat enc l))) (Maps.size (ktS.dat enc l)) (w.alloc (.cells #[.map (some b)] 100)) :=
    AnyZ.keys_gives (ρ := Tryz.laysKeysS_ren) { Tryz.laysKeysS with } Fence.wide _ trivial rfl (by omega) w.heap.size b nn _ _ (by simp) (by simp) (by
      obtain ⟨es, clock, hb, Ft, hs, hD⟩ := hown
      exact ⟨es, clock, (Below.heap_alloc _ _ b hbl).trans hb, Ft, hs, hD⟩)
  refine ⟨AnyZ.keys_in Tryz.laysKeysS Fence.wide 5 trivial rfl (some b) w, ?_⟩
  have cS := AnyZ.sorted_in Tryz.laysSortedS Fence.wide 5 trivial trivial trivial trivial rfl (by omega) (sortsS _) (enters_of Tryz.func120 (by kernel_rfl) rfl) 121 #[.pointer (some ⟨w.heap.size, 0, none⟩)] trivial (enters_of Tryz.func121 (by kernel_rfl) rfl) _ _ (by rw [hsz]; unfold maxLen; omega) (by rw [hsz]; omega) _ hseq
  change CallsIn _ _ Tryz.prog 97 _ _ _ at cS
  refine cS.mono ?_
  rintro e w' ⟨v, ss, rfl, hS, hrow, hnil, hb⟩
  rw [hk] at hS
  rw [hsort ss hS] at hrow
  have hlen : ss.length = l.length := by rw [hS.length_eq]; simp
  rw [hlen, List.map_map] at hrow
  exact ⟨v, rfl, ownsRow_base_a hrow (by simp), ((Below.refl _ w).alloc (Nat.le_refl _) _).trans (hb.mono (by simp))⟩
end Go.Proofs.YtogphlnakdnchaaGreat

namespace Go.Proofs.YtogphlnakdnchaaGreat
open Go.RowKit Go.Maps
theorem mp_row {w : World} {m : Nat} {A : Stk} {s : Str} (h : Mp Tryz.prog w 9 ktS SR.enc m A) (hs : okS s) : (Instr.lookup 100 (.map (some m)) (vS s) false).run Tryz.prog w = .ok (rowAt A s).enc w := by
  have := h.look kS Tryz.underlying100 (zeroSR w) (x := s) hs
  unfold rowAt
  cases e : getS A s <;> rw [e] at this <;> exact this
theorem mp_row_ok {w : World} {m : Nat} {A : Stk} {s : Str} (h : Mp Tryz.prog w 9 ktS SR.enc m A) (hs : okS s) : (Instr.lookup 100 (.map (some m)) (vS s) true).run Tryz.prog w = .ok (.tuple #[(rowAt A s).enc, .bool (getS A s).isSome]) w := by
  have := h.look_ok kS Tryz.underlying100 (zeroSR w) (x := s) hs
  unfold rowAt
  cases e : getS A s <;> rw [e] at this <;> exact this
theorem SA.cell {w : World} {g : Nat} {TS : Nat → Prop} {A : Stk} (h : SA w g TS A) : ∃ m, w.cell? ⟨g, 0, none⟩ = some (.map (some m)) ∧ Mp Tryz.prog w 9 ktS SR.enc m A ∧ TS m := by
  obtain ⟨⟨m, h1, h2, h3⟩, -, -⟩ := h
  exact ⟨m, cell_obj h1 0 _ rfl, h2, h3⟩
set_option maxRecDepth 100000 in
set_option maxHeartbeats 2000000 in
theorem sLevel (w : World) (g : Nat) (TS : Nat → Prop) (A : Stk) (s : Str) (h : SA w g TS A) (hs : okS s) :
    Calls Tryz.prog 60 #[.pointer (some ⟨g, 0, none⟩), vS s] w fun e w' => e = .returned (rowAt A s).lev ∧ Fr (fun _ => False) w w' := by
  have h1 := h.fr ((Fr.refl (fun _ => False) w).alloc (.cells #[.int .i64 0, .int .i64 0, .int .i64 0, .int .i64 0] 98)) (fun _ _ h => h)
  obtain ⟨m, hc, hm, -⟩ := h1.cell
  have hlk := mp_row hm hs
  have hmd := Lib.hid (smade _ g m hc)
  unfold SR.lev
  unfold SR.enc SR.cs at hlk
  generalize rowAt A s = r at hlk ⊢
  obtain ⟨f0, f1, f2, f3, f4, f5, f6, f7, f8, f9, f10⟩ := r
  dsimp only at hlk ⊢
  have hfl : ∀ W, (Instr.field 121 (.agg #[.int .i64 f0, .int .i64 f1, .int .i64 f2, .int .i64 f3, .int .i64 f4, .int .i64 f5, .int .i64 f6, .int .i64 f7, .int .i64 f8, .int .i64 f9, .int .i64 f10]) 0).run Tryz.prog W = .ok (.agg #[.int .i64 f0, .int .i64 f1, .int .i64 f2, .int .i64 f3]) W := fun W => by kernel_rfl
  clear h h1 hm
  go_enter Tryz.func60, Tryz.ntmps60
  go_wp2_with (go_at_call 69; refine hmd.out.mono ?_; rintro e w' ⟨rfl, rfl⟩)
  go_returns
  exact ⟨rfl, (Fr.refl _ _).alloc _⟩
theorem sClone (w : World) (m : Nat) (A : Stk) (h : Mp Tryz.prog w 9 ktS SR.enc m A) : Calls Tryz.prog 73 #[.map (some m)] w fun e w' => e = .returned (.map (some w.heap.size)) ∧ Mp Tryz.prog w' 9 ktS SR.enc w.heap.size A ∧ Below w.heap.size w w' := by
  obtain ⟨n, hown⟩ := h
  have hcon := AnyW.maps_Clone_owns Tryz.laysCloneS 9 _ m n _ w hown
  change Calls Tryz.prog 73 _ _ _ at hcon
  refine hcon.mono ?_
  rintro e w' ⟨rfl, h1, _, hB⟩
  exact ⟨rfl, ⟨n, h1⟩, hB⟩
set_option maxRecDepth 100000 in
set_option maxHeartbeats 2000000 in
theorem sFork (w : World) (g : Nat) (TS : Nat → Prop) (A : Stk) (h : SA w g TS A) :
    Calls Tryz.prog 57 #[.pointer (some ⟨g, 0, none⟩)] w fun e w' => ∃ g' TS', e = .returned (.pointer (some ⟨g', 0, none⟩)) ∧ SA w' g' TS' A ∧ Fr (fun _ => False) w w' ∧ ∀ b, TS' b → w.heap.size ≤ b := by
  obtain ⟨m, hc, hm, -⟩ := h.cell
  have hmd := Lib.hid (smade _ g m hc)
  have hcl := Lib.hid (sClone w m A hm)
  clear h hm
  go_enter Tryz.func57, Tryz.ntmps57
  go_wp2_with (first
    | (go_at_call 69; refine hmd.out.mono ?_; rintro e w' ⟨rfl, rfl⟩)
    | (go_at_call 73; refine hcl.out.mono ?_; rintro e w1 ⟨rfl, h1, hB⟩; have H1 := Lib.hid h1; have HB := Lib.hid hB; clear h1 hB))
  go_ret
  have hsz := HB.out.size
  have hlt := H1.out.lt
  refine ⟨_, fun b => b = w.heap.size ∨ b = w1.heap.size, rfl, ⟨⟨_, heap_new _ _, H1.out.alloc _, .inl rfl⟩, .inr rfl, fun b hb => by simp; omega⟩, (Fr.below HB.out).alloc _, fun b hb => by omega⟩
end Go.Proofs.YtogphlnakdnchaaGreat

namespace Go.Proofs.YtogphlnakdnchaaGreat
open Go.RowKit Go.Maps
set_option maxRecDepth 100000 in
set_option maxHeartbeats 4000000 in
theorem sCount (w : World) (g : Nat) (TS : Nat → Prop) (A : Stk) (s : Str) (n : Int) (h : SA w g TS A) (hs : okS s) (hA : SOk A) :
    Calls Tryz.prog 56 #[.pointer (some ⟨g, 0, none⟩), vS s, .int .i64 n] w fun e w' => e = .returned (.tuple #[.int .i64 (countS A s n).1, .int .i64 (countS A s n).2.1]) ∧ SA w' g TS (countS A s n).2.2 ∧ Fr TS w w' := by
  have HSA := Lib.hid h
  have h1 := h.fr ((Fr.refl (fun _ => False) w).alloc (.cells (rowAt A s).cs 121)) (fun _ _ h => h)
  have HS1 := Lib.hid h1
  obtain ⟨m, hc, hm, hTm⟩ := h.cell
  have hlk := mp_row_ok hm hs
  have hmd := Lib.hid (smade _ g m hc)
  have hok := hA.at_ s
  have hMay := Lib.hid (fun W => kMay W n)
  have hHM := Lib.hid hm
  clear h h1 hm
  cases hn : mayI n with
  | false =>
    have e : countS A s n = (0, 1, A) := by simp [countS, hn]
    rw [e]
    rw [hn] at hMay
    dsimp only
    unfold SR.enc at hlk
    obtain ⟨R, hR⟩ : ∃ R, rowAt A s = R := ⟨_, rfl⟩
    rw [hR] at hlk HS1
    unfold SR.cs at hlk HS1
    obtain ⟨B, hB⟩ : ∃ B, (getS A s).isSome = B := ⟨_, rfl⟩
    rw [hB] at hlk
    clear e hn hok hR hB
    go_enter Tryz.func56, Tryz.ntmps56
    go_wp2_with (first
      | (go_at_call 69; refine hmd.out.mono ?_; rintro e w' ⟨rfl, rfl⟩)
      | (go_at_call 68; refine (hMay.out _).mono ?_; rintro e w' ⟨rfl, rfl⟩))
    go_ret2
    exact ⟨rfl, HS1.out, (Fr.refl _ _).alloc _⟩
  | true =>
    rw [hn] at hMay
    obtain ⟨n0, n1⟩ := mayI_iff.1 hn
    cases hg : getS A s with
    | none =>
      have e : countS A s n = (0, 71, A) := by simp [countS, hn, hg]
      rw [e]
      rw [hg] at hlk
      dsimp only [Option.isSome] at hlk ⊢
      unfold SR.enc at hlk
      obtain ⟨R, hR⟩ : ∃ R, rowAt A s = R := ⟨_, rfl⟩
      rw [hR] at hlk HS1
      unfold SR.cs at hlk HS1
      clear e hn hok hR hg n0 n1
      go_enter Tryz.func56, Tryz.ntmps56
      go_wp2_with (first
        | (go_at_call 69; refine hmd.out.mono ?_; rintro e w' ⟨rfl, rfl⟩)
        | (go_at_call 68; refine (hMay.out _).mono ?_; rintro e w' ⟨rfl, rfl⟩))
      go_ret2
      exact ⟨rfl, HS1.out, (Fr.refl _ _).alloc _⟩
    | some r =>
      have hr : rowAt A s = r := by simp [rowAt, hg]
      rw [hr] at hlk HS1 hok
      rw [hg] at hlk
      dsimp only [Option.isSome] at hlk
      have hcs : countS A s n = (if n < r.held then (0, 70, A) else if (SR.mk (r.free + (n - r.held - r.free)) r.held r.picked r.aside r.received r.returned (r.counted + (n - r.held - r.free)) r.came r.shipped r.scrapped r.sent).right = true then (n - r.held - r.free, 0, putS ktS.lt A s (SR.mk (r.free + (n - r.held - r.free)) r.held r.picked r.aside r.received r.returned (r.counted + (n - r.held - r.free)) r.came r.shipped r.scrapped r.sent)) else (0, 50, A)) := by
        simp only [countS, hn, hg]
        rfl
      rw [hcs]
      have hcb := hok.counted
      obtain ⟨a0, a0'⟩ := hok.b.a0
      obtain ⟨a1, a1'⟩ := hok.b.a1
      obtain ⟨c0, c1⟩ := hcb
      unfold SR.enc SR.cs at hlk
      unfold SR.cs at HS1
      have HOK := Lib.hid hok
      obtain ⟨f0, f1, f2, f3, f4, f5, f6, f7, f8, f9, f10⟩ := r
      dsimp only at hlk HS1 a0 a0' a1 a1' c0 c1 ⊢
      clear hn hcs hr hg hok
      by_cases hlt : n < f1
      · rw [if_pos hlt]
        go_enter Tryz.func56, Tryz.ntmps56
        go_wp2_with (first
          | (go_at_call 69; refine hmd.out.mono ?_; rintro e w' ⟨rfl, rfl⟩)
          | (go_at_call 68; refine (hMay.out _).mono ?_; rintro e w' ⟨rfl, rfl⟩))
        go_ret2
        exact ⟨rfl, HS1.out, (Fr.refl _ _).alloc _⟩
      · rw [if_neg hlt]
        have hb2 : RowAt (w.alloc (.cells #[.int .i64 (f0 + (n - f1 - f0)), .int .i64 f1, .int .i64 f2, .int .i64 f3, .int .i64 f4, .int .i64 f5, .int .i64 (f6 + (n - f1 - f0)), .int .i64 f7, .int .i64 f8, .int .i64 f9, .int .i64 f10] 121)) w.heap.size ⟨f0 + (n - f1 - f0), f1, f2, f3, f4, f5, f6 + (n - f1 - f0), f7, f8, f9, f10⟩ := heap_new _ _
        have HRt := Lib.hid (sRight _ _ _ hb2)
        have HB2 := Lib.hid hb2
        obtain ⟨rt, hrt⟩ : ∃ rt, (SR.mk (f0 + (n - f1 - f0)) f1 f2 f3 f4 f5 (f6 + (n - f1 - f0)) f7 f8 f9 f10).right = rt := ⟨_, rfl⟩
        rw [hrt] at HRt ⊢
        have HRT := Lib.hid hrt
        clear hb2 hrt
        cases rt with
        | false =>
          simp only [Bool.false_eq_true, if_false]
          go_enter Tryz.func56, Tryz.ntmps56
          go_wp2_with (first
            | (go_at_call 69; refine hmd.out.mono ?_; rintro e w' ⟨rfl, rfl⟩)
            | (go_at_call 68; refine (hMay.out _).mono ?_; rintro e w' ⟨rfl, rfl⟩)
            | (go_at_call 76; refine HRt.out.mono ?_; rintro e w2 ⟨rfl, hF2⟩; have HF2 := Lib.hid hF2; clear hF2))
          go_ret2
          have hF : Fr (fun _ => False) w w2 := ((Fr.refl _ w).alloc _).trans HF2.out
          exact ⟨rfl, HSA.out.fr hF (fun _ _ h => h), hF.mono (fun _ _ h => h.elim)⟩
        | true =>
          simp only [if_true]
          have hg' : w.heap[g]? = some (.cells #[.map (some m)] 102) := by
            obtain ⟨⟨m', e1, e2, e3⟩, -, -⟩ := HSA.out
            have := cell_obj e1 0 _ rfl
            rw [hc] at this
            cases this
            exact e1
          have HG := Lib.hid hg'
          have hgS : TS g := HSA.out.own
          have hst : ∀ W, Fr (fun _ => False) w W → ∃ w', (Instr.mapUpdate 100 (.map (some m)) (vS s) (.agg #[.int .i64 (f0 + (n - f1 - f0)), .int .i64 f1, .int .i64 f2, .int .i64 f3, .int .i64 f4, .int .i64 f5, .int .i64 (f6 + (n - f1 - f0)), .int .i64 f7, .int .i64 f8, .int .i64 f9, .int .i64 f10])).run Tryz.prog W = .ok () w' ∧ Mp Tryz.prog w' 9 ktS SR.enc m (putS ktS.lt A s ⟨f0 + (n - f1 - f0), f1, f2, f3, f4, f5, f6 + (n - f1 - f0), f7, f8, f9, f10⟩) ∧ W.mapTurned w' m := fun W hW =>
            (hW.mp hHM.out (fun h => h)).store kS Tryz.underlying100 (by have := hA.len; omega) hs (SR.mk (f0 + (n - f1 - f0)) f1 f2 f3 f4 f5 (f6 + (n - f1 - f0)) f7 f8 f9 f10)
          have HST := Lib.hid hst
          clear hg' hst
          go_enter Tryz.func56, Tryz.ntmps56
          go_wp2_with (first
            | (go_at_call 69; refine hmd.out.mono ?_; rintro e w' ⟨rfl, rfl⟩)
            | (go_at_call 68; refine (hMay.out _).mono ?_; rintro e w' ⟨rfl, rfl⟩)
            | (go_at_call 76; refine HRt.out.mono ?_; rintro e w2 ⟨rfl, hF2⟩; have HF2 := Lib.hid hF2; clear hF2))
          refine wp_region_still_tail 6 (by kernel_rfl) (by kernel_rfl) ?_
          simp only [List.take_succ_cons, List.take_zero, List.drop_succ_cons, List.drop_zero]
          have hF : Fr (fun _ => False) w w2.drew := (((Fr.refl _ w).alloc _).trans HF2.out).drew
          have hB3 : RowAt w2.drew w.heap.size ⟨f0 + (n - f1 - f0), f1, f2, f3, f4, f5, f6 + (n - f1 - f0), f7, f8, f9, f10⟩ := HF2.out.at_ HB2.out (fun h => h)
          change wpStill _ _ w2.drew (fun a' => wpList _ _ _ _ a' w2.drew) _ _
          generalize w2.drew = V at hF hB3 ⊢
          obtain ⟨w5, hst5, hm5, ht5⟩ := HST.out V hF
          have cg := cell_obj (hF.at_ HG.out (fun h => h)) 0 (.map (some m)) rfl
          have d0 := cell_obj hB3 0 (.int .i64 (f0 + (n - f1 - f0))) rfl
          have d1 := cell_obj hB3 1 (.int .i64 f1) rfl
          have d2 := cell_obj hB3 2 (.int .i64 f2) rfl
          have d3 := cell_obj hB3 3 (.int .i64 f3) rfl
          have d4 := cell_obj hB3 4 (.int .i64 f4) rfl
          have d5 := cell_obj hB3 5 (.int .i64 f5) rfl
          have d6 := cell_obj hB3 6 (.int .i64 (f6 + (n - f1 - f0))) rfl
          have d7 := cell_obj hB3 7 (.int .i64 f7) rfl
          have d8 := cell_obj hB3 8 (.int .i64 f8) rfl
          have d9 := cell_obj hB3 9 (.int .i64 f9) rfl
          have d10 := cell_obj hB3 10 (.int .i64 f10) rfl
          have HF := Lib.hid hF; have HM5 := Lib.hid hm5; have HT5 := Lib.hid ht5
          clear hF hB3 hm5 ht5
          repeat still_step
          refine wpStill_nil ?_
          go_wp2_with fail
          go_ret2
          have hF5 : Fr (fun b => b = m) w w5 := (HF.out.mono (fun _ _ h => h.elim)).trans' (Fr.turned (S := fun b => b = m) HT5.out rfl) (fun b _ e => e)
          have hne : g ≠ m := map_ne_cells hHM.out HG.out
          refine ⟨rfl, ⟨⟨m, hF5.at_ HG.out hne, HM5.out, hTm⟩, hgS, fun b hb => Nat.lt_of_lt_of_le (HSA.out.lt b hb) hF5.size⟩, hF5.mono (fun b _ e => e ▸ hTm)⟩
end Go.Proofs.YtogphlnakdnchaaGreat

namespace Go.Proofs.YtogphlnakdnchaaGreat
open Go.RowKit Go.Maps
attribute [local go_sem] Oper.semAt_some
@[local go_sem] theorem optP_none (b : Nat) : optP b none = .pointer none := rfl
@[local go_sem] theorem optP_some (b i : Nat) : optP b (some i) = .pointer (some ⟨b, i, none⟩) := rfl
/-- Three boxes of the call's own: the stock, a kind, a result. -/
structure QI (w0 W : World) (n0 g : Nat) (k e : Int) : Prop where
  s : W.heap[n0]? = some (.cells #[.pointer (some ⟨g, 0, none⟩)] 58)
  k : W.heap[n0 + 1]? = some (.cells #[.int .i64 k] 3)
  e : W.heap[n0 + 1 + 1]? = some (.cells #[.int .i64 e] 30)
  fr : Fr (fun b => n0 ≤ b) w0 W
section
variable {w0 W W' : World} {n0 g : Nat} {k e : Int}
theorem QI.fa {B : Nat} (h : QI w0 W n0 g k e) (hf : Fa B W W') (hB : w0.heap.size ≤ B) : QI w0 W' n0 g k e :=
  ⟨Fa.cells hf h.s, Fa.cells hf h.k, Fa.cells hf h.e, h.fr.trans' hf (fun b hb e => by have := e.1; omega)⟩
theorem QI.keep (h : QI w0 W n0 g k e) (hf : Fr (fun _ => False) W W') : QI w0 W' n0 g k e :=
  ⟨hf.at_ h.s (fun h => h), hf.at_ h.k (fun h => h), hf.at_ h.e (fun h => h), h.fr.trans' hf (fun _ _ e => e.elim)⟩
theorem QI.put (h : QI w0 W n0 g k e) (e' : Int) : QI w0 (W.setCell ⟨n0 + 1 + 1, 0, none⟩ (.int .i64 e')) n0 g k e' := by
  have hF : Fr (fun b => b = n0 + 1 + 1) W (W.setCell ⟨n0 + 1 + 1, 0, none⟩ (.int .i64 e')) := (Fr.refl (fun b => b = n0 + 1 + 1) W).setCell (p := ⟨n0 + 1 + 1, 0, none⟩) (fun _ => rfl) _
  exact ⟨hF.at_ h.s (by omega), hF.at_ h.k (by omega), obj_set h.e 0 _, h.fr.trans' hF (fun b _ e => by omega)⟩
end
theorem doMay_71 {A : Stk} {k : Int} {L : Its} {i j : Nat} {p : Str × Int} (hr : (roadF k).1 = some i) (hp : L[j]? = some p) (hn : getS A p.1 = none) : doMay A k L = 71 := by
  unfold doMay
  rw [hr]
  have : (L.any fun p => (getS A p.1).isNone) = true := List.any_eq_true.2 ⟨p, List.mem_of_getElem? hp, by rw [hn]; rfl⟩
  simp only [this, if_true]
theorem doMay_known {A : Stk} {k : Int} {L : Its} {i : Nat} (hr : (roadF k).1 = some i) (hk : ∀ (j : Nat) (p : Str × Int), j < L.length → L[j]? = some p → (getS A p.1).isSome = true) :
    doMay A k L = if L.any (fun p => decide ((rowAt A p.1).get i < p.2)) = true then 51 else 0 := by
  unfold doMay
  rw [hr]
  have : (L.any fun p => (getS A p.1).isNone) = false := by
    refine Bool.eq_false_iff.2 (fun ht => ?_)
    obtain ⟨p, hp, hn⟩ := List.any_eq_true.1 ht
    obtain ⟨j, hj, rfl⟩ := List.getElem_of_mem hp
    have := hk j _ hj (List.getElem?_eq_getElem hj)
    cases e : getS A L[j].1 <;> rw [e] at this hn
    · cases this
    · cases hn
  simp only [this, Bool.false_eq_true, if_false]
def Mi1 (w : World) (n0 g : Nat) (k : Int) (A : Stk) (L : Its) (j : Nat) (_ : Nat → Prop) (W : World) : Prop := QI w W n0 g k 0 ∧ ∀ (i : Nat) (p : Str × Int), i < j → L[i]? = some p → (getS A p.1).isSome = true
def Mx1 (w : World) (n0 g : Nat) (k : Int) (A : Stk) (L : Its) (c : Code) (_ : Nat) (_ : Nat → Prop) (W : World) : Prop := c = .ret ∧ doMay A k L = 71 ∧ QI w W n0 g k 71
def Mi2 (w : World) (n0 g D : Nat) (k : Int) (A : Stk) (L : Its) (i0 : Nat) (j : Nat) (_ : Nat → Prop) (W : World) : Prop := (QI w W n0 g k 0 ∧ W.heap[D]? = some (.deferred (some []))) ∧ ∀ (i : Nat) (p : Str × Int), i < j → L[i]? = some p → ¬ (rowAt A p.1).get i0 < p.2
def Mx2 (w : World) (n0 g D : Nat) (k : Int) (A : Stk) (L : Its) (c : Code) (_ : Nat) (_ : Nat → Prop) (W : World) : Prop := c = .ret ∧ doMay A k L = 51 ∧ QI w W n0 g k 51 ∧ W.heap[D]? = some (.deferred (some []))
theorem def_fa {B D : Nat} {W W' : World} (h : W.heap[D]? = some (.deferred (some []))) (hf : Fa B W W') (hD : D < B) : W'.heap[D]? = some (.deferred (some [])) :=
  hf.at_ h (fun e => by have := e.1; omega)
set_option maxRecDepth 100000 in
set_option maxHeartbeats 8000000 in
theorem sMay (w : World) (g : Nat) (TS : Nat → Prop) (A : Stk) (k : Int) (v : Value) (L : Its) (h : SA w g TS A) (hA : SOk A) (hv : Il w v L) :
    Calls Tryz.prog 72 #[.pointer (some ⟨g, 0, none⟩), .int .i64 k, v] w fun e w' => e = .returned (.int .i64 (doMay A k L)) ∧ Fr (fun _ => False) w w' := by
  obtain ⟨n0, hn0⟩ : ∃ n0, w.heap.size = n0 := ⟨_, rfl⟩
  have HS := Lib.hid hn0
  have HL := Lib.hid hv
  have hob := hv.lt
  have HOB := Lib.hid hob
  have hokl : Hid (∀ (j : Nat) (p : Str × Int), L[j]? = some p → okS p.1) := Lib.hid (fun j p hp => by obtain ⟨_, _, _, _, hx⟩ := hv; exact (hx j p hp).1)
  obtain ⟨a, c, rfl⟩ := hv.sl
  obtain ⟨N, hN⟩ : ∃ N, L.length = N := ⟨_, rfl⟩
  have HN := Lib.hid hN
  rw [hN] at HL HOB ⊢
  obtain ⟨m, hc, hm, hTm⟩ := h.cell
  have HC := Lib.hid hc; have HM := Lib.hid hm; have HAA := Lib.hid hA
  have HGL : Hid (g < w.heap.size) := Lib.hid (h.lt g h.own)
  have hroad := Lib.hid (fun W b => sRoad W b k)
  have hrl := roadF_lt k
  clear hv hob hN h hm hTm hc hA
  refine (callsIn_wide (n := 0)).1 ?_
  refine callsIn_of_wp_marks Tryz.func72 rfl trivial ?_ rfl
  simp only [Tryz.ntmps72, List.size_toArray, List.length_cons, List.length_nil, Nat.reduceAdd, Nat.reduceSub, Array.replicate_succ, Array.replicate_zero, List.push_toArray, List.append_toArray, List.nil_append, List.cons_append]
  have hfn : ∀ f, Fence.wide.fn f := fun _ => trivial
  have hdp : Fence.wide.depth.isSome = false := rfl
  have hI0 : QI w ((((w.alloc (.cells #[.pointer (some ⟨g, 0, none⟩)] 58)).alloc (.cells #[.int .i64 k] 3)).alloc (.cells #[.int .i64 0] 30)).alloc (.cells SR.zero.cs 121)) n0 g k 0 :=
    ⟨heap_keep (heap_keep (heap_keep (heap_at hn0.symm _) _) _) _, heap_keep (heap_keep (heap_at (by simp; omega) _) _) _, heap_keep (heap_at (by simp; omega) _) _, ((((Fr.refl _ w).alloc _).alloc _).alloc _).alloc _⟩
  have hs0 : ((((w.alloc (.cells #[.pointer (some ⟨g, 0, none⟩)] 58)).alloc (.cells #[.int .i64 k] 3)).alloc (.cells #[.int .i64 0] 30)).alloc (.cells SR.zero.cs 121)).heap.size = n0 + 4 := by simp; omega
  dsimp only [SR.cs, SR.zero] at hI0 hs0
  have HI0 := Lib.hid hI0; have HS0 := Lib.hid hs0
  clear hI0 hs0
  obtain ⟨⟨rf, rt, ro⟩, hR⟩ : ∃ R, roadF k = R := ⟨_, rfl⟩
  rw [hR] at hroad hrl
  dsimp only at hroad hrl
  have hrf : Hid (∀ i, rf = some i → (roadF k).1 = some i) := Lib.hid (fun i e => by rw [hR]; exact e)
  have hrn : Hid (rf = none → doMay A k L = 0) := Lib.hid (fun e => by unfold doMay; rw [hR, e])
  clear hR
  cases rf with
  | none =>
    have hz := Lib.hid (hrn.out rfl)
    gi_wp2_with (gi_at_call 74; refine (callsIn_wide.2 (hroad.out _ _)).mono ?_; rintro e w1 ⟨rfl, q, rfl⟩)
    have hc5 := cell_obj (HI0.out.keep ((Fr.refl _ _).drewN q)).e 0 (.int .i64 0) rfl
    refine ⟨.int .i64 0, by simp [results, Tryz.results72, go_sem, hc5], ?_, ?_⟩
    · rw [hz.out]
    · exact ((((((Fr.refl _ w).alloc _).alloc _).alloc _).alloc _).drewN _).setCell (p := ⟨n0 + 1 + 1, 0, none⟩) (fun h => by have := HS.out; have h : n0 + 1 + 1 < w.heap.size := h; omega) _
  | some i0 =>
    have hi4 := hrl.1 i0 rfl
    have hroadI := hrf.out i0 rfl
    have HRO := Lib.hid hroadI
    clear hrl hrn hrf hroadI
    gi_wp2_with (first
      | (gi_at_call 74; refine (callsIn_wide.2 (hroad.out _ _)).mono ?_; rintro e w1 ⟨rfl, q, rfl⟩)
      | (gi_at_call 58; refine (callsIn_wide.2 (iAll _ _ _ _)).mono ?_; rintro e w1 ⟨rfl, rfl⟩))
    have hI1 := HI0.out.keep (((Fr.refl (fun _ => False) _).drewN q).alloc (.cells #[.slice a N c] 27))
    have hB1 : Boxed (((((((w.alloc (.cells #[.pointer (some ⟨g, 0, none⟩)] 58)).alloc (.cells #[.int .i64 k] 3)).alloc (.cells #[.int .i64 0] 30)).alloc (.cells #[.int .i64 0, .int .i64 0, .int .i64 0, .int .i64 0, .int .i64 0, .int .i64 0, .int .i64 0, .int .i64 0, .int .i64 0, .int .i64 0, .int .i64 0] 121)).drewN q)).alloc (.cells #[.slice a N c] 27)) (n0 + 4) 27 (.slice a N c) := heap_at (by have := HS0.out; exact this.symm) _
    obtain ⟨W1, hW1⟩ : ∃ W1, (((((((w.alloc (.cells #[.pointer (some ⟨g, 0, none⟩)] 58)).alloc (.cells #[.int .i64 k] 3)).alloc (.cells #[.int .i64 0] 30)).alloc (.cells #[.int .i64 0, .int .i64 0, .int .i64 0, .int .i64 0, .int .i64 0, .int .i64 0, .int .i64 0, .int .i64 0, .int .i64 0, .int .i64 0, .int .i64 0] 121)).drewN q)).alloc (.cells #[.slice a N c] 27)) = W1 := ⟨_, rfl⟩
    have hs1 : W1.heap.size = n0 + 5 := by rw [← hW1]; simp; omega
    rw [hW1] at hI1 hB1 ⊢
    have hL1 := HL.out.fr hI1.fr (fun b hb => by omega)
    have HI1 := Lib.hid hI1; have HS1 := Lib.hid hs1
    clear hW1 hI1 HI0 HS0
    refine rangeX (w0 := W1) (X := L) (S := fun b => b = n0 + 1 + 1) rfl (enters_of Tryz.func95 (by kernel_rfl) rfl)
      (iAll1 _ W1 (n0 + 4) _ L hB1 hL1 (by omega) (fun hl b hb e => by have := HOB.out hl b e; omega)) (Below.refl _ _) (fun b hb => by omega) (fun _ => rfl)
      (Mi1 w n0 g k A L) (Mx1 w n0 g k A L)
      (fun k C W W' hs hf => ⟨hs.1.fa hf (by omega), hs.2⟩) (fun c k C W W' hs hf => ⟨hs.1, hs.2.1, hs.2.2.fa hf (by omega)⟩)
      ⟨HI1.out, fun i p hi => by omega⟩ ?round ?done ?stop
    case round =>
      rintro lp j x C W hx hlp hi hr
      dsimp only [encIt]
      gi_wp2
      refine Took.mk (Fr.refl _ _) hi ?_
      rintro Wb ⟨hQ, hkn⟩ hrb hf hsz hsw hCC _
      have hok := hokl.out j x hx
      obtain ⟨gd, n⟩ := x
      dsimp only at hok ⊢
      have cs := cell_obj hQ.s 0 (.pointer (some ⟨g, 0, none⟩)) rfl
      have ce := cell_obj hQ.e 0 (.int .i64 0) rfl
      have fe := obj_frozen hQ.e 0
      have cg := hQ.fr.cell HC.out (by have := HGL.out; show ¬ n0 ≤ g; omega)
      have hlk := mp_row_ok (hQ.fr.mp HM.out (by have := HM.out.lt; omega)) hok
      unfold SR.enc at hlk
      obtain ⟨R, hRR⟩ : ∃ R, rowAt A gd = R := ⟨_, rfl⟩
      rw [hRR] at hlk
      unfold SR.cs at hlk
      have HX := Lib.hid hx; have HQ := Lib.hid hQ; have HKN := Lib.hid hkn
      clear hi hr hf hrb hx hQ hkn hok hRR
      cases hg : getS A gd with
      | none =>
        rw [hg] at hlk
        dsimp only [Option.isSome] at hlk
        have hno := Lib.hid (doMay_71 HRO.out HX.out hg)
        have hQ2 := HQ.out.keep ((Fr.refl (fun _ => False) Wb).alloc (.cells #[.int .i64 R.free, .int .i64 R.held, .int .i64 R.picked, .int .i64 R.aside, .int .i64 R.received, .int .i64 R.returned, .int .i64 R.counted, .int .i64 R.came, .int .i64 R.shipped, .int .i64 R.scrapped, .int .i64 R.sent] 121))
        have ce2 := cell_obj hQ2.e 0 (.int .i64 0) rfl
        have fe2 := obj_frozen hQ2.e 0
        have HQ2 := Lib.hid hQ2
        clear hg ce fe hQ2
        gi_wp2_with fail
        refine ⟨((Fr.refl _ _).alloc _).setCell (p := ⟨n0 + 1 + 1, 0, none⟩) (fun _ => .inl rfl) _, rfl, hno.out, HQ2.out.put 71⟩
      | some r =>
        rw [hg] at hlk
        dsimp only [Option.isSome] at hlk
        have hyes : Hid (∀ (i : Nat) (p : Str × Int), i < j + 1 → L[i]? = some p → (getS A p.1).isSome = true) := Lib.hid (fun i p hi hp => by
          by_cases e : i = j
          · subst e
            rw [HX.out] at hp
            cases hp
            rw [hg]; rfl
          · exact HKN.out i p (by omega) hp)
        clear hg
        gi_wp2_with fail
        exact ⟨(Fr.refl _ _).alloc _, HQ.out.keep ((Fr.refl _ _).alloc _), hyes.out⟩
    case stop =>
      rintro D c j C W hD hk ⟨rfl, hno, hQ⟩ hr hK
      have HQ := Lib.hid hQ; have HNO := Lib.hid hno
      have hc5 := cell_obj (Fa.cells (frPut (B := n0) (.deferred none) (by omega) hK rfl) hQ.e) 0 (.int .i64 71) rfl
      clear hQ hno hr
      gi_wp2_with fail
      refine ⟨by simp, .inl ⟨_, _, rfl, run_takeDeferred hK, ?_⟩⟩
      refine ⟨.int .i64 71, by simp [results, Tryz.results72, go_sem, hc5], ?_, ?_⟩
      · rw [HNO.out]
      · exact (HQ.out.fr.putObj (l := D) (fun _ => by omega) _).mono (fun b hb e => by omega)
    case done =>
      rintro D C W hD ⟨hQ, hkn⟩ hr hK
      have HQ := Lib.hid hQ
      have hkn' := Lib.hid (doMay_known HRO.out hkn)
      have hDl := (Array.getElem?_eq_some_iff.1 hK).1
      clear hkn hQ hr hB1 hL1
      gi_wp2_with (gi_at_call 58; refine (callsIn_wide.2 (iAll _ _ _ _)).mono ?_; rintro e w2 ⟨rfl, rfl⟩)
      have hQ2 := HQ.out.keep ((Fr.refl (fun _ => False) W).alloc (.cells #[.slice a N c] 27))
      have hB2 := Boxed.new W 27 (.slice a N c)
      have hK2 := heap_keep hK (.cells #[.slice a N c] 27)
      obtain ⟨W2, hW2⟩ : ∃ W2, W.alloc (.cells #[.slice a N c] 27) = W2 := ⟨_, rfl⟩
      have hs2 : W2.heap.size = W.heap.size + 1 := by rw [← hW2]; simp
      rw [hW2] at hQ2 hB2 hK2 ⊢
      have hL2 := HL.out.fr hQ2.fr (fun b hb => by omega)
      have HQ2 := Lib.hid hQ2; have HK2 := Lib.hid hK2
      have hnD : n0 + 5 ≤ D := by have := HS1.out; omega
      clear hW2 hQ2 hK2 HQ hK
      refine rangeX (w0 := W2) (X := L) (S := fun b => b = n0 + 1 + 1) rfl (enters_of Tryz.func95 (by kernel_rfl) rfl)
        (iAll1 _ W2 _ _ L hB2 hL2 (by omega) (fun hl b hb e => by have := HOB.out hl b e; omega)) (Below.refl _ _) (fun b hb => by omega) (fun _ => rfl)
        (Mi2 w n0 g D k A L i0) (Mx2 w n0 g D k A L)
        (fun k C W W' hs hf => ⟨⟨hs.1.1.fa hf (by omega), def_fa hs.1.2 hf (by omega)⟩, hs.2⟩) (fun c k C W W' hs hf => ⟨hs.1, hs.2.1, hs.2.2.1.fa hf (by omega), def_fa hs.2.2.2 hf (by omega)⟩)
        ⟨⟨HQ2.out, HK2.out⟩, fun i p hi => by omega⟩ ?round2 ?done2 ?stop2
      case round2 =>
        rintro lp j x C3 W3 hx hlp hi hr
        dsimp only [encIt]
        gi_wp2
        refine Took.mk (Fr.refl _ _) hi ?_
        rintro Wb ⟨⟨hQ, hKb⟩, hkn⟩ hrb hf hsz hsw hCC _
        have hok := hokl.out j x hx
        obtain ⟨gd, n⟩ := x
        dsimp only at hok ⊢
        have cs := cell_obj hQ.s 0 (.pointer (some ⟨g, 0, none⟩)) rfl
        have ck := cell_obj (heap_keep hQ.k (.cells (rowAt A gd).cs 121)) 0 (.int .i64 k) rfl
        have cg := hQ.fr.cell HC.out (by have := HGL.out; show ¬ n0 ≤ g; omega)
        have hlk := mp_row (hQ.fr.mp HM.out (by have := HM.out.lt; omega)) hok
        have hcl := cell_obj (heap_new Wb (.cells (rowAt A gd).cs 121)) i0 _ ((rowAt A gd).cs_get (show i0 < 11 by omega))
        unfold SR.enc at hlk
        obtain ⟨R, hRR⟩ : ∃ R, rowAt A gd = R := ⟨_, rfl⟩
        rw [hRR] at hlk hcl ck
        obtain ⟨have_, hhv⟩ : ∃ x, R.get i0 = x := ⟨_, rfl⟩
        rw [hhv] at hcl
        have HHV : Hid ((rowAt A gd).get i0 = have_) := Lib.hid (by rw [hRR, hhv])
        unfold SR.cs at hlk hcl ck
        have hQ3 := HQ2.out
        have hQa := hQ.keep (((Fr.refl (fun _ => False) Wb).alloc (.cells #[.int .i64 R.free, .int .i64 R.held, .int .i64 R.picked, .int .i64 R.aside, .int .i64 R.received, .int .i64 R.returned, .int .i64 R.counted, .int .i64 R.came, .int .i64 R.shipped, .int .i64 R.scrapped, .int .i64 R.sent] 121)))
        have HX := Lib.hid hx; have HQ := Lib.hid hQ; have HQA := Lib.hid hQa; have HKN := Lib.hid hkn; have HKB := Lib.hid hKb
        clear hi hr hf hrb hx hQ hkn hok hRR hhv hQ3 hQa hKb
        by_cases hlt : have_ < n
        · have hno : Hid (doMay A k L = 51) := Lib.hid (by
            rw [hkn'.out, if_pos]
            exact List.any_eq_true.2 ⟨_, List.mem_of_getElem? HX.out, by rw [decide_eq_true_eq, HHV.out]; exact hlt⟩)
          have ce2 := cell_obj HQA.out.e 0 (.int .i64 0) rfl
          have fe2 := obj_frozen HQA.out.e 0
          gi_wp2_with (gi_at_call 74; refine (callsIn_wide.2 (hroad.out _ _)).mono ?_; rintro e w5 ⟨rfl, q5, rfl⟩)
          have hFq : Fr (fun b => b = n0 + 1 + 1) Wb (((Wb.alloc (.cells #[.int .i64 R.free, .int .i64 R.held, .int .i64 R.picked, .int .i64 R.aside, .int .i64 R.received, .int .i64 R.returned, .int .i64 R.counted, .int .i64 R.came, .int .i64 R.shipped, .int .i64 R.scrapped, .int .i64 R.sent] 121)).drewN q5).setCell ⟨n0 + 1 + 1, 0, none⟩ (.int .i64 51)) := (((Fr.refl (fun b => b = n0 + 1 + 1) Wb).alloc _).drewN _).setCell (p := ⟨n0 + 1 + 1, 0, none⟩) (fun _ => rfl) _
          exact ⟨hFq.mono (fun _ _ e => .inl e), rfl, hno.out, (HQA.out.keep ((Fr.refl _ _).drewN q5)).put 51, hFq.at_ HKB.out (by omega)⟩
        · have hyes : Hid (∀ (i : Nat) (p : Str × Int), i < j + 1 → L[i]? = some p → ¬ (rowAt A p.1).get i0 < p.2) := Lib.hid (fun i p hi hp => by
            by_cases e : i = j
            · subst e
              rw [HX.out] at hp
              cases hp
              rw [HHV.out]; exact hlt
            · exact HKN.out i p (by omega) hp)
          gi_wp2_with (gi_at_call 74; refine (callsIn_wide.2 (hroad.out _ _)).mono ?_; rintro e w5 ⟨rfl, q5, rfl⟩)
          exact ⟨((Fr.refl _ _).alloc _).drewN _, ⟨HQA.out.keep ((Fr.refl _ _).drewN q5), heap_keep HKB.out _⟩, fun i p hi hp => by have := hyes.out i p hi hp; omega⟩
      case stop2 =>
        rintro D2 c j C3 W3 hD2 hk ⟨rfl, hno, hQ, hK1⟩ hr hK
        have HQ := Lib.hid hQ; have HNO := Lib.hid hno
        have hK1' := (World.putObj_heap_other (w := W3) (r := D2) (o := .deferred none) (k := D) (by omega)).trans hK1
        have hFx : Fa n0 W3 ((W3.putObj D2 (.deferred none)).putObj D (.deferred none)) := (frPut (B := n0) (.deferred none) (by omega) hK rfl).trans' (frPut (B := n0) (.deferred none) (by omega) hK1' rfl) (fun b hb e => ⟨e.1, by
          obtain ⟨-, o, ho, hx⟩ := e
          by_cases hbD : b = D2
          · subst hbD; exact ⟨_, hK, rfl⟩
          · exact ⟨o, (World.putObj_heap_other hbD).symm.trans ho, hx⟩⟩)
        have hc5 := cell_obj (Fa.cells hFx hQ.e) 0 (.int .i64 51) rfl
        clear hQ hno hr
        gi_wp2_with fail
        refine ⟨by simp, .inl ⟨_, _, rfl, run_takeDeferred hK, ?_⟩⟩
        refine ⟨by simp, .inl ⟨_, _, rfl, run_takeDeferred hK1', ?_⟩⟩
        refine ⟨.int .i64 51, by simp [results, Tryz.results72, go_sem, hc5], ?_, ?_⟩
        · rw [HNO.out]
        · exact ((HQ.out.fr.putObj (l := D2) (fun _ => by omega) _).putObj (l := D) (fun _ => by omega) _).mono (fun b hb e => by omega)
      case done2 =>
        rintro D2 C3 W3 hD2 ⟨⟨hQ, hK1⟩, hkn⟩ hr hK
        have HQ := Lib.hid (hQ.put 0)
        have hz : Hid (doMay A k L = 0) := Lib.hid (by
          rw [hkn'.out, if_neg]
          intro ht
          obtain ⟨p, hp, hlt⟩ := List.any_eq_true.1 ht
          obtain ⟨i, hi, rfl⟩ := List.getElem_of_mem hp
          have := hkn i _ hi (List.getElem?_eq_getElem hi)
          simp only [decide_eq_true_eq] at hlt
          exact this hlt)
        have ce2 := cell_obj hQ.e 0 (.int .i64 0) rfl
        have fe2 := obj_frozen hQ.e 0
        have hKs := (Below.heap_setCell W3 ⟨n0 + 1 + 1, 0, none⟩ (.int .i64 0) D2 (by simp; omega)).trans hK
        have hK1s := (Below.heap_setCell W3 ⟨n0 + 1 + 1, 0, none⟩ (.int .i64 0) D (by simp; omega)).trans hK1
        have hK1' := (World.putObj_heap_other (w := W3.setCell ⟨n0 + 1 + 1, 0, none⟩ (.int .i64 0)) (r := D2) (o := .deferred none) (k := D) (by omega)).trans hK1s
        have hFx : Fa n0 (W3.setCell ⟨n0 + 1 + 1, 0, none⟩ (.int .i64 0)) (((W3.setCell ⟨n0 + 1 + 1, 0, none⟩ (.int .i64 0)).putObj D2 (.deferred none)).putObj D (.deferred none)) := (frPut (B := n0) (.deferred none) (by omega) hKs rfl).trans' (frPut (B := n0) (.deferred none) (by omega) hK1' rfl) (fun b hb e => ⟨e.1, by
          obtain ⟨-, o, ho, hx⟩ := e
          by_cases hbD : b = D2
          · subst hbD; exact ⟨_, hKs, rfl⟩
          · exact ⟨o, (World.putObj_heap_other hbD).symm.trans ho, hx⟩⟩)
        have hc5 := cell_obj (Fa.cells hFx (hQ.put 0).e) 0 (.int .i64 0) rfl
        clear hQ hkn hr hK hK1
        gi_wp2_with fail
        refine ⟨by simp, .inl ⟨_, _, rfl, run_takeDeferred hKs, ?_⟩⟩
        refine ⟨by simp, .inl ⟨_, _, rfl, run_takeDeferred hK1', ?_⟩⟩
        refine ⟨.int .i64 0, by simp [results, Tryz.results72, go_sem, hc5], ?_, ?_⟩
        · rw [hz.out]
        · exact ((HQ.out.fr.putObj (l := D2) (fun _ => by omega) _).putObj (l := D) (fun _ => by omega) _).mono (fun b hb e => by omega)
end Go.Proofs.YtogphlnakdnchaaGreat

namespace Go.Proofs.YtogphlnakdnchaaGreat
open Go.RowKit Go.Maps
attribute [local go_sem] Oper.semAt_some
theorem SR.get_ok {r : SR} (h : SRb r) {i : Nat} (hi : i < 11) (h6 : i ≠ 6) : 0 ≤ r.get i ∧ r.get i ≤ 72057594037927936 := by
  obtain ⟨a0, a1, a2, a3, b0, b1, b2, b3, b4, b5⟩ := h
  match i, hi, h6 with
  | 0, _, _ => exact ⟨a0.1, by have := a0.2; show r.free ≤ _; omega⟩
  | 1, _, _ => exact ⟨a1.1, by have := a1.2; show r.held ≤ _; omega⟩
  | 2, _, _ => exact ⟨a2.1, by have := a2.2; show r.picked ≤ _; omega⟩
  | 3, _, _ => exact ⟨a3.1, by have := a3.2; show r.aside ≤ _; omega⟩
  | 4, _, _ => exact b0
  | 5, _, _ => exact b1
  | 6, _, h => exact absurd rfl h
  | 7, _, _ => exact b2
  | 8, _, _ => exact b3
  | 9, _, _ => exact b4
  | 10, _, _ => exact b5
theorem SR.get_set (r : SR) (i j : Nat) (n : Int) (hi : i < 11) (hj : j < 11) : (r.set i n).get j = if i = j then n else r.get j := by
  have h : ∀ (i j : Fin 11), (r.set i.val n).get j.val = if i = j then n else r.get j.val := by
    intro i j
    match i, j with
    | ⟨i, hi⟩, ⟨j, hj⟩ =>
      match i, hi, j, hj with
      | 0, _, j, hj => match j, hj with | 0, _ | 1, _ | 2, _ | 3, _ | 4, _ | 5, _ | 6, _ | 7, _ | 8, _ | 9, _ | 10, _ => rfl
      | 1, _, j, hj => match j, hj with | 0, _ | 1, _ | 2, _ | 3, _ | 4, _ | 5, _ | 6, _ | 7, _ | 8, _ | 9, _ | 10, _ => rfl
      | 2, _, j, hj => match j, hj with | 0, _ | 1, _ | 2, _ | 3, _ | 4, _ | 5, _ | 6, _ | 7, _ | 8, _ | 9, _ | 10, _ => rfl
      | 3, _, j, hj => match j, hj with | 0, _ | 1, _ | 2, _ | 3, _ | 4, _ | 5, _ | 6, _ | 7, _ | 8, _ | 9, _ | 10, _ => rfl
      | 4, _, j, hj => match j, hj with | 0, _ | 1, _ | 2, _ | 3, _ | 4, _ | 5, _ | 6, _ | 7, _ | 8, _ | 9, _ | 10, _ => rfl
      | 5, _, j, hj => match j, hj with | 0, _ | 1, _ | 2, _ | 3, _ | 4, _ | 5, _ | 6, _ | 7, _ | 8, _ | 9, _ | 10, _ => rfl
      | 6, _, j, hj => match j, hj with | 0, _ | 1, _ | 2, _ | 3, _ | 4, _ | 5, _ | 6, _ | 7, _ | 8, _ | 9, _ | 10, _ => rfl
      | 7, _, j, hj => match j, hj with | 0, _ | 1, _ | 2, _ | 3, _ | 4, _ | 5, _ | 6, _ | 7, _ | 8, _ | 9, _ | 10, _ => rfl
      | 8, _, j, hj => match j, hj with | 0, _ | 1, _ | 2, _ | 3, _ | 4, _ | 5, _ | 6, _ | 7, _ | 8, _ | 9, _ | 10, _ => rfl
      | 9, _, j, hj => match j, hj with | 0, _ | 1, _ | 2, _ | 3, _ | 4, _ | 5, _ | 6, _ | 7, _ | 8, _ | 9, _ | 10, _ => rfl
      | 10, _, j, hj => match j, hj with | 0, _ | 1, _ | 2, _ | 3, _ | 4, _ | 5, _ | 6, _ | 7, _ | 8, _ | 9, _ | 10, _ => rfl
  have := h ⟨i, hi⟩ ⟨j, hj⟩
  simpa [Fin.ext_iff] using this
/-- What the three additions need: nothing wraps. -/
theorem SR.adds {r : SR} (h : SRb r) {k n : Int} (hn : 0 ≤ n ∧ n ≤ 1099511627776) :
    (∀ i, (roadF k).1 = some i → i < 11 ∧ okI (r.get i + -n)) ∧ (∀ i, (roadF k).2.1 = some i → i < 11 ∧ okI ((r.add (roadF k).1 (-n)).get i + n)) ∧
    (∀ i, (roadF k).2.2 = some i → i < 11 ∧ okI (((r.add (roadF k).1 (-n)).add (roadF k).2.1 n).get i + n)) := by
  obtain ⟨h1, h2, h3⟩ := roadF_lt k
  have key : ∀ (o : Option Nat) (d : Int) (i : Nat) (s : SR), (∀ j, o = some j → j < 11) → i < 11 → -1099511627776 ≤ d → d ≤ 1099511627776 → s.get i - 1099511627776 ≤ (s.add o d).get i ∧ (s.add o d).get i ≤ s.get i + 1099511627776 := by
    intro o d i s ho hi d0 d1
    cases o with
    | none => exact ⟨by show s.get i - _ ≤ s.get i; omega, by show s.get i ≤ _; omega⟩
    | some j =>
      show s.get i - _ ≤ (s.set j (s.get j + d)).get i ∧ (s.set j (s.get j + d)).get i ≤ _
      rw [SR.get_set _ _ _ _ (ho j rfl) hi]
      by_cases e : j = i
      · subst e; rw [if_pos rfl]; omega
      · rw [if_neg e]; omega
  obtain ⟨n0, n1⟩ := hn
  refine ⟨fun i hi => ?_, fun i hi => ?_, fun i hi => ?_⟩
  · have := h1 i hi
    have := SR.get_ok h (i := i) (by omega) (by omega)
    exact ⟨by omega, by unfold okI; omega⟩
  · have := h2 i hi
    have h0 := SR.get_ok h (i := i) (by omega) (by omega)
    have := key (roadF k).1 (-n) i r (fun j hj => by have := h1 j hj; omega) (by omega) (by omega) (by omega)
    exact ⟨by omega, by unfold okI; omega⟩
  · have := h3 i hi
    have h0 := SR.get_ok h (i := i) (by omega) (by omega)
    have h4 := key (roadF k).1 (-n) i r (fun j hj => by have := h1 j hj; omega) (by omega) (by omega) (by omega)
    have h5 := key (roadF k).2.1 n i (r.add (roadF k).1 (-n)) (fun j hj => by have := h2 j hj; omega) (by omega) (by omega) (by omega)
    exact ⟨by omega, by unfold okI; omega⟩
theorem doFold_cons (k : Int) (B : Stk) (p : Str × Int) (r : Its) : doFold k B (p :: r) = if ((rowAt B p.1).move k p.2).right = true then doFold k (putS ktS.lt B p.1 ((rowAt B p.1).move k p.2)) r else none := rfl
theorem right_b {r : SR} (h : r.right = true) : SRb r := by
  unfold SR.right at h
  rw [Bool.and_eq_true, SR.each_iff] at h
  exact h.1
theorem rowAt_b {B : Stk} (h : ∀ p ∈ B, SRb p.2) (g : Str) : SRb (rowAt B g) := by
  show SRb ((getS B g).getD SR.zero)
  cases e : getS B g with
  | none => exact SRok.zero.b
  | some v => exact h _ (getS_memS e)
/-- What Do keeps on its way. -/
structure DoI (w0 W : World) (n0 nb mb : Nat) (k e : Int) (B : Stk) : Prop where
  k : W.heap[n0]? = some (.cells #[.int .i64 k] 3)
  e : W.heap[n0 + 1]? = some (.cells #[.int .i64 e] 30)
  nx : W.heap[nb]? = some (.cells #[.map (some mb)] 100)
  map : Mp Tryz.prog W 9 ktS SR.enc mb B
  rows : ∀ p ∈ B, SRb p.2
  fr : Fr (fun b => n0 ≤ b) w0 W
  hn : n0 + 1 < nb ∧ n0 + 1 < mb ∧ nb ≠ mb
section
variable {w0 W W' : World} {n0 nb mb : Nat} {k e : Int} {B : Stk}
theorem DoI.fa {C : Nat} (h : DoI w0 W n0 nb mb k e B) (hf : Fa C W W') (hB : w0.heap.size ≤ C) : DoI w0 W' n0 nb mb k e B :=
  ⟨Fa.cells hf h.k, Fa.cells hf h.e, Fa.cells hf h.nx, Fa.mp hf h.map, h.rows, h.fr.trans' hf (fun b hb e => by have := e.1; omega), h.hn⟩
theorem DoI.keep (h : DoI w0 W n0 nb mb k e B) (hf : Fr (fun _ => False) W W') : DoI w0 W' n0 nb mb k e B :=
  ⟨hf.at_ h.k (fun h => h), hf.at_ h.e (fun h => h), hf.at_ h.nx (fun h => h), hf.mp h.map (fun h => h), h.rows, h.fr.trans' hf (fun _ _ e => e.elim), h.hn⟩
theorem DoI.side {S : Nat → Prop} (h : DoI w0 W n0 nb mb k e B) (hf : Fr S W W') (hS : ∀ b, S b → W.heap.size ≤ b) : DoI w0 W' n0 nb mb k e B := by
  have l1 := (Array.getElem?_eq_some_iff.1 h.k).1
  have l2 := (Array.getElem?_eq_some_iff.1 h.e).1
  have l3 := (Array.getElem?_eq_some_iff.1 h.nx).1
  have l4 := h.map.lt
  exact ⟨hf.at_ h.k (fun e => by have := hS _ e; omega), hf.at_ h.e (fun e => by have := hS _ e; omega), hf.at_ h.nx (fun e => by have := hS _ e; omega), hf.mp h.map (fun e => by have := hS _ e; omega), h.rows, h.fr.trans' hf (fun b _ e => by have := hS _ e; have := h.fr.size; omega), h.hn⟩
theorem DoI.put (h : DoI w0 W n0 nb mb k e B) (e' : Int) : DoI w0 (W.setCell ⟨n0 + 1, 0, none⟩ (.int .i64 e')) n0 nb mb k e' B := by
  have hF : Fr (fun b => b = n0 + 1) W (W.setCell ⟨n0 + 1, 0, none⟩ (.int .i64 e')) := (Fr.refl (fun b => b = n0 + 1) W).setCell (p := ⟨n0 + 1, 0, none⟩) (fun _ => rfl) _
  have := h.hn
  exact ⟨hF.at_ h.k (by omega), obj_set h.e 0 _, hF.at_ h.nx (by omega), hF.mp h.map (by omega), h.rows, h.fr.trans' hF (fun b _ e => by omega), h.hn⟩
theorem DoI.turn {s : Str} {r : SR} (h : DoI w0 W n0 nb mb k e B) (ht : W.mapTurned W' mb) (hm : Mp Tryz.prog W' 9 ktS SR.enc mb (putS ktS.lt B s r)) (hr : SRb r) : DoI w0 W' n0 nb mb k e (putS ktS.lt B s r) := by
  have hF : Fr (fun b => b = mb) W W' := Fr.turned ht rfl
  have := h.hn
  refine ⟨hF.at_ h.k (by omega), hF.at_ h.e (by omega), hF.at_ h.nx this.2.2, hm, fun p hp => ?_, h.fr.trans' hF (fun b _ e => by omega), h.hn⟩
  rcases mem_putK.1 hp with rfl | ⟨hp3, -⟩
  · exact hr
  · exact h.rows p hp3
end
end Go.Proofs.YtogphlnakdnchaaGreat

namespace Go.Proofs.YtogphlnakdnchaaGreat
open Go.RowKit Go.Maps
/-- A row of the document's stock, as cells. -/
def rowV (g : Str) (r : SR) : Array Value := #[vS g, .int .i64 r.free, .int .i64 r.held, .int .i64 r.picked, .int .i64 r.aside, .int .i64 r.received, .int .i64 r.returned, .int .i64 r.counted, .int .i64 r.came, .int .i64 r.shipped, .int .i64 r.scrapped, .int .i64 r.sent]
set_option maxRecDepth 100000 in
set_option maxHeartbeats 4000000 in
theorem r7Right (w : World) (g : Str) (r : SR) : Calls Tryz.prog 87 #[.agg (rowV g r)] w fun e w' => e = .returned (.bool r.right) ∧ Fr (fun _ => False) w w' := by
  have HE := Lib.hid (fun W => r7Each W r)
  have HSm := Lib.hid (fun W => r7Sum W r)
  obtain ⟨n0, hn0⟩ : ∃ n0, w.heap.size = n0 := ⟨_, rfl⟩
  have hb : (w.alloc (.cells (rowV g r) 132)).heap[n0]? = some (.cells (rowV g r) 132) := by rw [← hn0]; exact heap_new _ _
  have hf : Fr (fun _ => False) w (w.alloc (.cells (rowV g r) 132)) := (Fr.refl _ w).alloc _
  obtain ⟨W0, hW0⟩ : ∃ W0, w.alloc (.cells (rowV g r) 132) = W0 := ⟨_, rfl⟩
  rw [hW0] at hb hf
  have HB := Lib.hid hb; have HF0 := Lib.hid hf
  clear hf
  unfold SR.lev SR.flo at HE
  unfold SR.lev at HSm
  unfold rowV at HB hW0 hb ⊢
  have hEc : Hid (r.right = (r.each && mayI r.sum)) := Lib.hid rfl
  obtain ⟨G, hG⟩ : ∃ G, r.right = G := ⟨_, rfl⟩
  rw [hG] at hEc ⊢
  clear hG
  obtain ⟨E, hE⟩ : ∃ E, r.each = E := ⟨_, rfl⟩
  have HSm2 : Hid (E = true → ∀ W, Calls Tryz.prog 112 #[.agg #[.int .i64 r.free, .int .i64 r.held, .int .i64 r.picked, .int .i64 r.aside]] W fun e w' => e = .returned (.int .i64 r.sum) ∧ Fr (fun _ => False) W w') := Lib.hid (fun e W => HSm.out W (SR.each_iff.1 (by rw [hE]; exact e)))
  obtain ⟨S, hS⟩ : ∃ S, r.sum = S := ⟨_, rfl⟩
  rw [hE] at HE
  rw [hE, hS] at hEc
  rw [hS] at HSm2
  clear HSm hE hS
  obtain ⟨f0, f1, f2, f3, f4, f5, f6, f7, f8, f9, f10⟩ := r
  dsimp only at HE HSm2 HB hW0 hb ⊢
  have HM := Lib.hid (fun W => r5May W S)
  obtain ⟨M, hM⟩ : ∃ M, mayI S = M := ⟨_, rfl⟩
  rw [hM] at HM hEc
  clear hM
  have hx := hb
  have p0 := cell_obj hx 1 (.int .i64 f0) rfl
  have p1 := cell_obj hx 2 (.int .i64 f1) rfl
  have p2 := cell_obj hx 3 (.int .i64 f2) rfl
  have p3 := cell_obj hx 4 (.int .i64 f3) rfl
  have p4 := cell_obj hx 5 (.int .i64 f4) rfl
  have p5 := cell_obj hx 6 (.int .i64 f5) rfl
  have p6 := cell_obj hx 7 (.int .i64 f6) rfl
  have p7 := cell_obj hx 8 (.int .i64 f7) rfl
  have p8 := cell_obj hx 9 (.int .i64 f8) rfl
  have p9 := cell_obj hx 10 (.int .i64 f9) rfl
  have p10 := cell_obj hx 11 (.int .i64 f10) rfl
  clear hx hb
  cases E with
  | false =>
    have hg : Hid (G = false) := Lib.hid (by rw [hEc.out]; rfl)
    go_enter Tryz.func87, Tryz.ntmps87
    go_wp2_with (go_at_call 111; refine (HE.out _).mono ?_; rintro e w1 ⟨rfl, hF⟩; have HF := Lib.hid (HF0.out.trans hF); clear hF)
    go_ret
    exact ⟨by rw [hg.out]; rfl, HF.out⟩
  | true =>
    have HSm3 := Lib.hid (HSm2.out rfl)
    have hg : Hid (G = M) := Lib.hid (by rw [hEc.out]; rfl)
    go_enter Tryz.func87, Tryz.ntmps87
    go_wp2_with (first
      | (go_at_call 84; refine (HM.out _).mono ?_; rintro e w3 ⟨rfl, rfl⟩)
      | (go_at_call 112; refine (HSm3.out _).mono ?_; rintro e w2 ⟨rfl, hF⟩; have HF := Lib.hid (HF.out.trans hF); clear hF)
      | (go_at_call 111; refine (HE.out _).mono ?_; rintro e w1 ⟨rfl, hF⟩; have HF := Lib.hid (HF0.out.trans hF); have hx := hF.at_ HB.out (fun e => e); have p0 := cell_obj hx 1 (.int .i64 f0) rfl; have p1 := cell_obj hx 2 (.int .i64 f1) rfl; have p2 := cell_obj hx 3 (.int .i64 f2) rfl; have p3 := cell_obj hx 4 (.int .i64 f3) rfl; have p4 := cell_obj hx 5 (.int .i64 f4) rfl; have p5 := cell_obj hx 6 (.int .i64 f5) rfl; have p6 := cell_obj hx 7 (.int .i64 f6) rfl; have p7 := cell_obj hx 8 (.int .i64 f7) rfl; have p8 := cell_obj hx 9 (.int .i64 f8) rfl; have p9 := cell_obj hx 10 (.int .i64 f9) rfl; have p10 := cell_obj hx 11 (.int .i64 f10) rfl; clear hF hx))
    go_ret
    exact ⟨by rw [hg.out]; rfl, HF.out⟩
end Go.Proofs.YtogphlnakdnchaaGreat

namespace Go.Proofs.YtogphlnakdnchaaGreat
open Go.RowKit Go.Maps
theorem putK_len_known {ν : Type} {A : List (Str × ν)} {g : Str} {v : ν} (hA : RiseS A) (hg : (getS A g).isSome = true) : (putS ktS.lt A g v).length = A.length := by
  unfold putS
  rw [(insK_perm ktS.lt (g, v) _).length_eq, List.length_cons]
  induction A with
  | nil => simp [getS] at hg
  | cons p r ih =>
    obtain ⟨a1, a2⟩ := List.pairwise_cons.1 hA
    by_cases e : p.1 = g
    · have : delS (p :: r) g = r := by
        unfold delS
        rw [List.filter_cons]
        simp only [e, decide_true, Bool.not_true, Bool.false_eq_true, if_false]
        refine List.filter_eq_self.2 (fun y hy => ?_)
        have := a1 y hy
        simp only [Bool.not_eq_true', decide_eq_false_iff_not]
        intro hh; rw [hh, e] at this; exact str_irr _ this
      rw [this]; rfl
    · have h1 : delS (p :: r) g = p :: delS r g := by
        unfold delS
        rw [List.filter_cons]
        simp [e]
      rw [h1, List.length_cons, List.length_cons, ih a2 (by simpa [getS, e] using hg)]
theorem rowAt_put {A : Stk} {x y : Str} {v : SR} (hA : RiseS A) : rowAt (putS ktS.lt A x v) y = if x = y then v else rowAt A y := by
  unfold rowAt
  rw [getK_put (riseS_nd hA)]
  split <;> rfl
/-- What a fold of moves makes of a stock. -/
def MoveOf (k : Int) (A : Stk) (L : Its) (B : Stk) : Prop := RiseS B ∧ ∀ g, getS B g = match getS L g with | some n => some ((rowAt A g).move k n) | none => getS A g
theorem doFold_iff (k : Int) : ∀ {L : Its} {last : Str} {A : Stk}, itsOk last L = true → RiseS A →
    (∀ B, doFold k A L = some B → (∀ p ∈ L, ((rowAt A p.1).move k p.2).right = true) ∧ MoveOf k A L B) ∧ ((∀ p ∈ L, ((rowAt A p.1).move k p.2).right = true) → ∃ B, doFold k A L = some B)
  | [], last, A, h, hA => by
    refine ⟨fun B hB => ?_, fun _ => ⟨A, rfl⟩⟩
    obtain rfl : A = B := Option.some.inj hB
    exact ⟨fun p hp => (by cases hp), hA, fun g => rfl⟩
  | p :: r, last, A, h, hA => by
    obtain ⟨h1, h2, h3, h4, h5⟩ := its_cons h
    obtain ⟨r1, r2⟩ := its_all h5
    have hne : ∀ q ∈ r, ¬ p.1 = q.1 := fun q hq e => by
      have := (r2 q hq).2.2.2
      rw [e] at this; exact str_irr _ this
    have hrow : ∀ q ∈ r, rowAt (putS ktS.lt A p.1 ((rowAt A p.1).move k p.2)) q.1 = rowAt A q.1 := fun q hq => by
      rw [rowAt_put hA, if_neg (hne q hq)]
    obtain ⟨i1, i2⟩ := doFold_iff k h5 (riseS_put (x := p.1) (v := (rowAt A p.1).move k p.2) hA)
    rw [doFold_cons]
    refine ⟨fun B hB => ?_, fun hall => ?_⟩
    · split at hB
      · rename_i hr
        obtain ⟨j1, j2, j3⟩ := i1 B hB
        refine ⟨fun q hq => ?_, j2, fun g => ?_⟩
        · rcases List.mem_cons.1 hq with rfl | hq
          · exact hr
          · have := j1 q hq
            rwa [hrow q hq] at this
        · rw [j3 g]
          by_cases e : p.1 = g
          · subst e
            have hn : getS r p.1 = none := getK_none.2 (fun y hy e => hne y hy e.symm)
            rw [hn]
            simp only [getS, if_pos]
            rw [getK_put (riseS_nd hA), if_pos rfl]
          · simp only [getS, if_neg e]
            cases hg : getS r g with
            | none => simp only; rw [getK_put (riseS_nd hA), if_neg e]
            | some n => simp only; rw [rowAt_put hA, if_neg e]
      · cases hB
    · rw [if_pos (hall p (by simp))]
      exact i2 (fun q hq => by rw [hrow q hq]; exact hall q (by simp [hq]))
theorem doFold_len (k : Int) : ∀ {L : Its} {A B : Stk}, RiseS A → (∀ p ∈ L, (getS A p.1).isSome = true) → doFold k A L = some B → B.length = A.length
  | [], A, B, hA, h, e => by obtain rfl : A = B := Option.some.inj e; rfl
  | p :: r, A, B, hA, h, e => by
    rw [doFold_cons] at e
    split at e
    · have := doFold_len k (riseS_put (x := p.1) (v := (rowAt A p.1).move k p.2) hA) (fun q hq => by
        rw [getK_put (riseS_nd hA)]
        split
        · rfl
        · exact h q (by simp [hq])) e
      rw [this, putK_len_known hA (h p (by simp))]
    · cases e
/-- What is said of a stock by its rows, from MoveOf. -/
theorem MoveOf.rows {k : Int} {A B : Stk} {L : Its} (h : MoveOf k A L B) (hA : SOk A) (hL : ∀ p ∈ L, goodB p.1 = true) (hr : ∀ p ∈ L, ((rowAt A p.1).move k p.2).right = true) : ∀ p ∈ B, goodB p.1 = true ∧ SRok p.2 := by
  have key : ∀ g n, (g, n) ∈ L → SRok ((rowAt A g).move k n) := fun g n hm => SRok.ofR (hr (g, n) hm) (SR.move_bal (hA.at_ g).bal k n)
  intro p hp
  have hg := getK_of (riseS_nd h.1) (x := p.1) (v := p.2) hp
  rw [h.2 p.1] at hg
  cases hl : getS L p.1 with
  | none =>
    rw [hl] at hg
    have := getK_mem hg
    exact ⟨hA.good _ this, hA.row _ this⟩
  | some n =>
    rw [hl] at hg
    have hm := getK_mem hl
    simp only [Option.some.injEq] at hg
    refine ⟨hL _ hm, ?_⟩
    rw [← hg]
    exact key _ _ hm
theorem doS_yes {A B : Stk} {k : Int} {L : Its} (hA : SOk A) (h : doS A k L = (0, B)) : 1 ≤ k ∧ k ≤ 11 ∧ mayL L = true ∧ doMay A k L = 0 ∧ (∀ p ∈ L, ((rowAt A p.1).move k p.2).right = true) ∧ MoveOf k A L B ∧ B.length ≤ 64 := by
  unfold doS at h
  split at h
  · cases h
  · rename_i h1
    split at h
    · cases h
    · rename_i h2
      split at h
      · rename_i h3
        injection h with h _
        exact absurd h h3
      · rename_i h3
        have hm : mayL L = true := by simpa using h2
        obtain ⟨i1, -⟩ := doFold_iff k (mayL_iff.1 hm).1 hA.rise
        split at h
        · cases h
        · rename_i C hC
          split at h
          · cases h
          · rename_i h4
            injection h with _ h
            subst h
            obtain ⟨j1, j2⟩ := i1 _ hC
            exact ⟨by omega, by omega, hm, by omega, j1, j2, by omega⟩
theorem doS_ok {A : Stk} {k : Int} {L : Its} (hA : SOk A) : SOk (doS A k L).2 := by
  by_cases h0 : (doS A k L).1 = 0
  · obtain ⟨-, -, hm, -, hr, hB, hlen⟩ := doS_yes hA (B := (doS A k L).2) (Prod.ext h0 rfl)
    have := hB.rows hA (fun p hp => ((its_all (mayL_iff.1 hm).1).2 p hp).1) hr
    exact ⟨hB.1, fun p hp => (this p hp).1, fun p hp => (this p hp).2, hlen⟩
  · have : (doS A k L).2 = A := by
      unfold doS at h0 ⊢
      split
      · rfl
      · split
        · rfl
        · split
          · rfl
          · split
            · rfl
            · split
              · rfl
              · rename_i h1 h2 h3 _ _ h4 h5
                rw [if_neg h1, if_neg h2, if_neg h3, h4] at h0
                simp only [if_neg h5] at h0
                first | exact absurd rfl h0 | exact absurd trivial h0
    rw [this]; exact hA
theorem doS_no {A : Stk} {k : Int} {L : Its} (h0 : (doS A k L).1 ≠ 0) : (doS A k L).2 = A := by
  unfold doS at h0 ⊢
  split
  · rfl
  · split
    · rfl
    · split
      · rfl
      · split
        · rfl
        · split
          · rfl
          · rename_i h1 h2 h3 _ _ h4 h5
            rw [if_neg h1, if_neg h2, if_neg h3, h4] at h0
            simp only [if_neg h5] at h0
            first | exact absurd rfl h0 | exact absurd trivial h0
/-- When something that takes can be done. -/
theorem doS_can {A : Stk} {k : Int} {L : Its} {i : Nat} (hA : SOk A) (hk : 1 ≤ k ∧ k ≤ 11) (hm : mayL L = true) (hi : (roadF k).1 = some i) (hin : ∀ p ∈ L, (getS A p.1).isSome = true) (hh : ∀ p ∈ L, p.2 ≤ (rowAt A p.1).get i)
    (hr : ∀ p ∈ L, ((rowAt A p.1).move k p.2).right = true) : ∃ B, doS A k L = (0, B) := by
  obtain ⟨i1, i2⟩ := doFold_iff k (mayL_iff.1 hm).1 hA.rise
  obtain ⟨B, hB⟩ := i2 hr
  have hl := doFold_len k hA.rise hin hB
  have := hA.len
  refine ⟨B, ?_⟩
  have hd : doMay A k L = 0 := by
    unfold doMay
    rw [hi]
    have h1 : (L.any fun p => (getS A p.1).isNone) = false := by
      refine List.any_eq_false.2 (fun p hp => ?_)
      have := hin p hp
      cases e : getS A p.1 <;> simp_all
    have h2 : (L.any fun p => decide ((rowAt A p.1).get i < p.2)) = false := by
      refine List.any_eq_false.2 (fun p hp => ?_)
      have := hh p hp
      simp; omega
    simp only [h1, h2, Bool.false_eq_true, if_false]
  unfold doS
  rw [if_neg (by omega), if_neg (by simp [hm]), if_neg (by simp [hd]), hB]
  simp only
  rw [if_neg (by omega)]
theorem doMay_0 {A : Stk} {k : Int} {L : Its} {i : Nat} (hi : (roadF k).1 = some i) (h : doMay A k L = 0) : (∀ p ∈ L, (getS A p.1).isSome = true) ∧ ∀ p ∈ L, p.2 ≤ (rowAt A p.1).get i := by
  unfold doMay at h
  rw [hi] at h
  simp only at h
  split at h
  · cases h
  · rename_i h1
    split at h
    · cases h
    · rename_i h2
      refine ⟨fun p hp => ?_, fun p hp => ?_⟩
      · cases e : getS A p.1 with
        | some v => rfl
        | none => exact absurd (List.any_eq_true.2 ⟨p, hp, by simp [e]⟩) h1
      · refine Int.not_lt.1 (fun hlt => h2 (List.any_eq_true.2 ⟨p, hp, by simpa using hlt⟩))
theorem countS_ok {A : Stk} {g : Str} {n : Int} (hA : SOk A) : SOk (countS A g n).2.2 := by
  unfold countS
  split
  · exact hA
  · split
    · exact hA
    · rename_i r hr
      split
      · exact hA
      · simp only
        split
        · rename_i hri
          have hb := (hA.row _ (getK_mem hr))
          have hg := (hA.good _ (getK_mem hr))
          have hl := putK_len_known (g := g) (v := { r with free := r.free + (n - r.held - r.free), counted := r.counted + (n - r.held - r.free) }) hA.rise (by rw [hr]; rfl)
          refine ⟨riseS_put hA.rise, fun p hp => ?_, fun p hp => ?_, by rw [hl]; exact hA.len⟩
          · rcases mem_putK.1 hp with rfl | ⟨hp, -⟩
            · exact hg
            · exact hA.good _ hp
          · rcases mem_putK.1 hp with rfl | ⟨hp, -⟩
            · refine SRok.ofR hri ?_
              have := hb.bal
              unfold SR.sum SR.flow at this ⊢
              simp only at this ⊢
              omega
            · exact hA.row _ hp
        · exact hA
/-- Held, picked, put back, freed: all is as it was. -/
theorem back_S {A B : Stk} {L : Its} (hA : SOk A) (h : doS A 2 L = (0, B)) : ∃ C, doS B 4 L = (0, C) ∧ doS C 5 L = (0, B) ∧ doS B 3 L = (0, A) := by
  obtain ⟨-, -, hm, hd, hr, hB, -⟩ := doS_yes hA h
  obtain ⟨hin, hfree⟩ := doMay_0 (k := 2) (i := 0) rfl hd
  have hoB : SOk B := by have := doS_ok (k := 2) (L := L) hA; rw [h] at this; exact this
  have hL := its_all (mayL_iff.1 hm).1
  have hat : ∀ p ∈ L, getS L p.1 = some p.2 := fun p hp => getK_of (riseS_nd hL.1) hp
  have rB : ∀ p ∈ L, getS B p.1 = some ((rowAt A p.1).move 2 p.2) := fun p hp => by rw [hB.2, hat p hp]
  have rB' : ∀ p ∈ L, rowAt B p.1 = (rowAt A p.1).move 2 p.2 := fun p hp => by unfold rowAt; rw [rB p hp]; rfl
  have ok : ∀ p ∈ L, SRok (rowAt A p.1) := fun p _ => hA.at_ p.1
  have m2 : ∀ (r : SR) (n : Int), r.move 2 n = { r with free := r.free + -n, held := r.held + n } := fun r n => rfl
  have m4 : ∀ (r : SR) (n : Int), r.move 4 n = { r with held := r.held + -n, picked := r.picked + n } := fun r n => rfl
  have m5 : ∀ (r : SR) (n : Int), r.move 5 n = { r with picked := r.picked + -n, held := r.held + n } := fun r n => rfl
  have m3 : ∀ (r : SR) (n : Int), r.move 3 n = { r with held := r.held + -n, free := r.free + n } := fun r n => rfl
  have bnd : ∀ p ∈ L, 0 ≤ (rowAt A p.1).free - p.2 ∧ 0 ≤ p.2 := fun p hp => by
    have h1 : p.2 ≤ (rowAt A p.1).free := hfree p hp
    have h2 := (hL.2 p hp).2.1
    omega
  have rt : ∀ r : SR, SRb r → 0 ≤ r.sum ∧ r.sum ≤ 1099511627776 → r.right = true := fun r h1 h2 => by
    unfold SR.right
    rw [Bool.and_eq_true, SR.each_iff, mayI_iff]
    exact ⟨h1, h2⟩
  obtain ⟨C, hC⟩ := doS_can (k := 4) (i := 1) hoB (by omega) hm rfl (fun p hp => by rw [rB p hp]; rfl) (fun p hp => by
      rw [rB' p hp, m2]
      show p.2 ≤ (rowAt A p.1).held + p.2
      have := (ok p hp).b.a1
      omega) (fun p hp => by
      rw [rB' p hp, m2, m4]
      have h0 := ok p hp
      have hb := bnd p hp
      obtain ⟨⟨a0, a1, a2, a3, b0, b1, b2, b3, b4, b5⟩, hs, -⟩ := h0
      unfold SR.sum at hs
      refine rt _ ⟨?_, ?_, ?_, ?_, b0, b1, b2, b3, b4, b5⟩ ?_ <;> (try unfold SR.sum) <;> simp only <;> omega)
  obtain ⟨-, -, -, -, -, hCm, -⟩ := doS_yes hoB hC
  have hoC : SOk C := by have := doS_ok (k := 4) (L := L) hoB; rw [hC] at this; exact this
  have rC : ∀ p ∈ L, getS C p.1 = some ((rowAt B p.1).move 4 p.2) := fun p hp => by rw [hCm.2, hat p hp]
  have rC' : ∀ p ∈ L, rowAt C p.1 = (rowAt B p.1).move 4 p.2 := fun p hp => by unfold rowAt; rw [rC p hp]; rfl
  have back5 : ∀ p ∈ L, (rowAt C p.1).move 5 p.2 = rowAt B p.1 := fun p hp => by
    rw [rC' p hp, m4, m5]
    cases hr : rowAt B p.1
    simp only [SR.mk.injEq, true_and, and_true]
    refine ⟨?_, ?_⟩ <;> omega
  have back3 : ∀ p ∈ L, (rowAt B p.1).move 3 p.2 = rowAt A p.1 := fun p hp => by
    rw [rB' p hp, m2, m3]
    cases hr : rowAt A p.1
    simp only [SR.mk.injEq, true_and, and_true]
    refine ⟨?_, ?_⟩ <;> omega
  obtain ⟨D, hD⟩ := doS_can (k := 5) (i := 2) hoC (by omega) hm rfl (fun p hp => by rw [rC p hp]; rfl) (fun p hp => by
      rw [rC' p hp, m4]
      show p.2 ≤ (rowAt B p.1).picked + p.2
      have := (hoB.at_ p.1).b.a2
      omega) (fun p hp => by rw [back5 p hp]; exact (hoB.at_ p.1).right)
  obtain ⟨E, hE⟩ := doS_can (k := 3) (i := 1) hoB (by omega) hm rfl (fun p hp => by rw [rB p hp]; rfl) (fun p hp => by
      rw [rB' p hp, m2]
      show p.2 ≤ (rowAt A p.1).held + p.2
      have := (ok p hp).b.a1
      omega) (fun p hp => by rw [back3 p hp]; exact (ok p hp).right)
  obtain ⟨-, -, -, -, -, hDm, -⟩ := doS_yes hoC hD
  obtain ⟨-, -, -, -, -, hEm, -⟩ := doS_yes hoB hE
  have eD : D = B := riseS_ext hDm.1 hB.1 (fun g => by
    rw [hDm.2 g]
    cases hg : getS L g with
    | none => simp only; rw [hCm.2 g, hg]
    | some n =>
      have hp := getK_mem hg
      simp only
      rw [back5 _ hp]
      have := rB _ hp
      unfold rowAt
      simp only at this
      rw [this]; rfl)
  have eE : E = A := riseS_ext hEm.1 hA.rise (fun g => by
    rw [hEm.2 g]
    cases hg : getS L g with
    | none => simp only; rw [hB.2 g, hg]
    | some n =>
      have hp := getK_mem hg
      simp only
      rw [back3 _ hp]
      have := hin _ hp
      unfold rowAt
      cases e : getS A g with
      | none => simp only at this; rw [e] at this; cases this
      | some v => rfl)
  rw [eD] at hD
  rw [eE] at hE
  exact ⟨C, hC, hD, hE⟩
end Go.Proofs.YtogphlnakdnchaaGreat

namespace Go.Proofs.YtogphlnakdnchaaGreat
open Go.RowKit Go.Maps
theorem infoRow7 : (Tryz.prog.info? 132).map (fun i => (i.zero, i.size, i.bytes)) = some (some (.agg (rowV [] SR.zero)), 12, 104) := by kernel_rfl
def rowC (p : Str × SR) : List Value := (rowV p.1 p.2).toList
def rcs (A : Stk) : List Value := A.flatMap rowC
theorem rowC_len (p : Str × SR) : (rowC p).length = 12 := rfl
theorem rcs_app (A B : Stk) : rcs (A ++ B) = rcs A ++ rcs B := by simp [rcs]
theorem rowC_one {u : Value} {p : Str × SR} (h : u ∈ rowC p) : u.oneCell' = true := by
  simp only [rowC, rowV, List.mem_cons, List.not_mem_nil, or_false] at h
  rcases h with rfl | rfl | rfl | rfl | rfl | rfl | rfl | rfl | rfl | rfl | rfl | rfl <;> rfl
theorem rcs_one {u : Value} {A : Stk} (h : u ∈ rcs A) : u.oneCell' = true := by
  simp only [rcs, List.mem_flatMap] at h
  obtain ⟨q, _, hq⟩ := h
  exact rowC_one hq
theorem rcs_at : ∀ {A : Stk} {k : Nat} {p : Str × SR}, A[k]? = some p → ∀ (j : Nat) (u : Value), (rowC p)[j]? = some u → (rcs A)[k * 12 + j]? = some u
  | q :: r, 0, p, h, j, u, hj => by
    obtain rfl : q = p := by simpa using h
    show (rowC q ++ rcs r)[0 * 12 + j]? = some u
    rw [show 0 * 12 + j = j by omega, List.getElem?_append_left (List.getElem?_eq_some_iff.1 hj).1]
    exact hj
  | q :: r, k + 1, p, h, j, u, hj => by
    have := rcs_at (A := r) (k := k) (p := p) (by simpa using h) j u hj
    show (rowC q ++ rcs r)[(k + 1) * 12 + j]? = some u
    rw [List.getElem?_append_right (by rw [rowC_len]; omega), rowC_len, show (k + 1) * 12 + j - 12 = k * 12 + j by omega]
    exact this
/-- Object g begins with the rows of the document's stock that says A (X: what else the object has, and its type); it lies in the blocks of TS. -/
structure RSX (X : List Value × TypeId) (w : World) (g : Nat) (TS : Nat → Prop) (A : Stk) : Prop where
  ex : ∃ v, w.heap[g]? = some (.cells (v :: X.1).toArray X.2) ∧ w.ownsRow 0 132 12 v A.length (rcs A) ∧ ∀ b, v.ownBlock = some b → TS b ∧ b ≠ g
  own : TS g
  lt : ∀ b, TS b → b < w.heap.size
/-- Object g is the document's stock that says A; it lies in the blocks of TS. -/
abbrev RS (w : World) (g : Nat) (TS : Nat → Prop) (A : Stk) : Prop := RSX ([], 43) w g TS A
theorem cons_set (v u : Value) (l : List Value) : ((u :: l).toArray).setIfInBounds 0 v = (v :: l).toArray := by simp
theorem cons_at (u : Value) (l : List Value) : ((u :: l).toArray)[0]? = some u := by simp
theorem RSX.fr {X : List Value × TypeId} {S TS : Nat → Prop} {w w' : World} {g : Nat} {A : Stk} (h : RSX X w g TS A) (hf : Fr S w w') (hS : ∀ b, TS b → ¬ S b) : RSX X w' g TS A := by
  obtain ⟨⟨v, h1, h2, h3⟩, h5, h6⟩ := h
  exact ⟨⟨v, hf.at_ h1 (hS _ h5), hf.row h2 (fun b hb => hS b (h3 b hb).1), h3⟩, h5, fun b hb => Nat.lt_of_lt_of_le (h6 b hb) hf.size⟩
theorem RSX.cell {X : List Value × TypeId} {TS : Nat → Prop} {w : World} {g : Nat} {A : Stk} (h : RSX X w g TS A) : ∃ a c, w.cell? ⟨g, 0, none⟩ = some (.slice a A.length c) ∧ w.ownsRow 0 132 12 (.slice a A.length c) A.length (rcs A) ∧ ∀ b, (Value.slice a A.length c).ownBlock = some b → TS b ∧ b ≠ g := by
  obtain ⟨⟨v, h1, h2, h3⟩, h5, h6⟩ := h
  obtain ⟨a, c, rfl⟩ := row_sl h2
  exact ⟨a, c, cell_obj h1 0 _ (cons_at _ _), h2, h3⟩
/-- A row's cells. -/
theorem row12 {w : World} {base n c k : Nat} {a : Option Addr} {A : Stk} {p : Str × SR} (h : w.ownsRow base 132 12 (.slice a n c) n (rcs A)) (hn : n = A.length) (hp : A[k]? = some p) :
    ∃ gp, a = some ⟨gp, 0, none⟩ ∧ ∀ (j : Nat) (u : Value), (rowC p)[j]? = some u → w.cell? ⟨gp, k * 12 + j, none⟩ = some u := by
  have hk : k < n := by rw [hn]; exact (List.getElem?_eq_some_iff.1 hp).1
  rcases h.2 with ⟨e, e0⟩ | ⟨gp, c', cur, e, _, _, hle, _⟩
  · omega
  · injection e with e1 _ e3
    subst e1; subst e3
    refine ⟨gp, rfl, fun j u hu => ?_⟩
    obtain ⟨ad, e, hc⟩ := (Rd.own h).at_ (by omega) (rcs_at hp j u hu)
    cases e
    have : (⟨gp, 0, none⟩ : Addr).add (k * 12 + j) = ⟨gp, k * 12 + j, none⟩ := by unfold Addr.add; split <;> simp_all
    rw [this] at hc; exact hc
theorem getS_find {A : Stk} {s : Str} {k : Nat} {r : SR} (hA : RiseS A) (h : A[k]? = some (s, r)) : getS A s = some r := getK_of (riseS_nd hA) (List.mem_of_getElem? h)
def FindR (A : Stk) (s : Str) (i : Int) : Prop := (∃ (k : Nat) (r : SR), i = k ∧ A[k]? = some (s, r) ∧ getS A s = some r) ∨ (i = -1 ∧ getS A s = none)
set_option maxRecDepth 100000 in
set_option maxHeartbeats 4000000 in
theorem r7Find {X : List Value × TypeId} (w : World) (g : Nat) (TS : Nat → Prop) (A : Stk) (s : Str) (h : RSX X w g TS A) (hA : RiseS A) (hl : (A.length : Int) ≤ 1099511627776) :
    Calls Tryz.prog 85 #[.pointer (some ⟨g, 0, none⟩), vS s] w fun e w' => ∃ i, e = .returned (.int .i64 i) ∧ FindR A s i ∧ w' = w := by
  obtain ⟨a, c, hc0, hrow, -⟩ := h.cell
  obtain ⟨n, hn⟩ : ∃ n, A.length = n := ⟨_, rfl⟩
  have HN := Lib.hid hn; have HR := Lib.hid hrow; have HA := Lib.hid hA
  rw [hn] at hl hc0 HR
  clear hrow hn h hA
  go_enter Tryz.func85, Tryz.ntmps85
  go_wp2_with fail
  go_loopw [5] (fun i wr => ∃ k : Nat, k ≤ n ∧ i = .int .i64 k ∧ wr = w ∧ ∀ (j : Nat) (p : Str × SR), j < k → A[j]? = some p → p.1 ≠ s) (fun i _ => n - (intOf i).toNat)
  case atStart => exact ⟨0, Nat.zero_le _, rfl, rfl, fun j p hj => by omega⟩
  case round =>
    obtain ⟨k, hk, rfl, rfl, hall⟩ := hrel
    have HALL := Lib.hid hall
    clear hall
    by_cases hlt : k < n
    · obtain ⟨p, hp⟩ : ∃ p, A[k]? = some p := ⟨A[k]'(by rw [HN.out]; exact hlt), List.getElem?_eq_getElem _⟩
      obtain ⟨gp, rfl, hcell⟩ := row12 HR.out HN.out.symm hp
      obtain ⟨gd, r⟩ := p
      have p0 := hcell 0 (vS gd) rfl
      rw [Nat.add_zero] at p0
      have HP := Lib.hid hp
      have hltI : (k : Int) < n := by omega
      clear hcell hp
      by_cases he : gd = s
      · have HE := Lib.hid he
        have heq : ∀ W, (binOp .eql 9 (vS gd) (vS s)).run Tryz.prog W = .ok (.bool true) W := fun W => by simp [go_sem, he]
        have q1 : (gd == s) = true := by simpa using he
        clear he
        go_wp2_with fail
        go_ret
        exact ⟨_, rfl, .inl ⟨k, r, rfl, by rw [← HE.out]; exact HP.out, by rw [← HE.out]; exact getS_find HA.out HP.out⟩, by first | rfl | trivial⟩
      · have HE := Lib.hid he
        have heq : ∀ W, (binOp .eql 9 (vS gd) (vS s)).run Tryz.prog W = .ok (.bool false) W := fun W => by simp [go_sem, he]
        have q1 : (gd == s) = false := by simpa using he
        go_wp2_with fail
        go_roundw
        case rel => exact ⟨k + 1, by omega, by go_num, (by first | rfl | trivial), fun j p hj hp => by
          by_cases e : j = k
          · rw [e, HP.out] at hp
            cases hp
            exact HE.out
          · exact HALL.out j p (by omega) hp⟩
        case measure => simp [intOf]; omega
    · have hkn : k = n := by omega
      have hno : Hid (getS A s = none) := Lib.hid (getK_none.2 (fun p hp => by
        obtain ⟨j, hj⟩ := List.getElem?_of_mem hp
        refine HALL.out j p ?_ hj
        have := (List.getElem?_eq_some_iff.1 hj).1
        have := HN.out
        omega))
      clear hkn
      go_wp2_with fail
      go_ret
      exact ⟨_, rfl, .inr ⟨rfl, hno.out⟩, by first | rfl | trivial⟩
set_option maxRecDepth 100000 in
set_option maxHeartbeats 4000000 in
theorem r7Row {X : List Value × TypeId} (w : World) (g : Nat) (TS : Nat → Prop) (A : Stk) (s : Str) (h : RSX X w g TS A) (hA : RiseS A) (hl : (A.length : Int) ≤ 1099511627776) :
    Calls Tryz.prog 86 #[.pointer (some ⟨g, 0, none⟩), vS s] w fun e w' => e = .returned (.agg (rowV s (rowAt A s))) ∧ Fr (fun _ => False) w w' := by
  have hz : (w.alloc (.cells (rowV [] SR.zero) 132)) = w.alloc (.cells (rowV [] SR.zero) 132) := rfl
  obtain ⟨n0, hn0⟩ : ∃ n0, w.heap.size = n0 := ⟨_, rfl⟩
  have hF := Lib.hid (Fr.refl (fun _ => False) w)
  have H := Lib.hid h; have HA := Lib.hid hA
  clear hz h hA
  go_enter Tryz.func86, Tryz.ntmps86
  go_wp2_with fail
  have hf1 : Fr (fun _ => False) w (w.alloc (.cells #[.string ⟨#[]⟩, .int .i64 0, .int .i64 0, .int .i64 0, .int .i64 0, .int .i64 0, .int .i64 0, .int .i64 0, .int .i64 0, .int .i64 0, .int .i64 0, .int .i64 0] 132)) := (Fr.refl _ w).alloc _
  have HF := Lib.hid hf1
  have HS := Lib.hid hn0
  clear hf1 hF
  have hSW := H.out.fr HF.out (fun _ _ e => e)
  refine (r7Find _ g TS A s hSW HA.out hl).mono ?_
  rintro e w1 ⟨i, rfl, hfi, rfl⟩
  obtain ⟨a, c, hc0, hrow, -⟩ := hSW.cell
  obtain ⟨n, hn⟩ : ∃ n, A.length = n := ⟨_, rfl⟩
  have HN := Lib.hid hn; have HR := Lib.hid hrow
  rw [hn] at hl hc0 HR
  clear hrow hn hSW
  rcases hfi with ⟨k, r, rfl, hk, hg⟩ | ⟨rfl, hg⟩
  · obtain ⟨gp, rfl, hcell⟩ := row12 HR.out HN.out.symm hk
    have hkn : (k : Int) < n := by have := (List.getElem?_eq_some_iff.1 hk).1; have := HN.out; omega
    have hrA : Hid (rowAt A s = r) := Lib.hid (by unfold rowAt; rw [hg]; rfl)
    have p0 := hcell 0 (vS s) rfl
    have p1 := hcell 1 (.int .i64 r.free) rfl
    have p2 := hcell 2 (.int .i64 r.held) rfl
    have p3 := hcell 3 (.int .i64 r.picked) rfl
    have p4 := hcell 4 (.int .i64 r.aside) rfl
    have p5 := hcell 5 (.int .i64 r.received) rfl
    have p6 := hcell 6 (.int .i64 r.returned) rfl
    have p7 := hcell 7 (.int .i64 r.counted) rfl
    have p8 := hcell 8 (.int .i64 r.came) rfl
    have p9 := hcell 9 (.int .i64 r.shipped) rfl
    have p10 := hcell 10 (.int .i64 r.scrapped) rfl
    have p11 := hcell 11 (.int .i64 r.sent) rfl
    rw [Nat.add_zero] at p0
    clear hcell hk hg
    go_wp2_with fail
    subst hn0
    refine bodyPost_ret (v := .agg (rowV s r)) (by simp [results, Tryz.results86, go_sem, rowV]) rfl ⟨by rw [hrA.out], (Fr.refl _ w).alloc _⟩
  · have hrA : Hid (rowAt A s = SR.zero) := Lib.hid (by unfold rowAt; rw [hg]; rfl)
    clear hg
    go_wp2_with fail
    subst hn0
    refine bodyPost_ret (v := .agg (rowV s SR.zero)) (by simp [results, Tryz.results86, go_sem, rowV, SR.zero]) rfl ⟨by rw [hrA.out], (Fr.refl _ w).alloc _⟩
end Go.Proofs.YtogphlnakdnchaaGreat

namespace Go.Proofs.YtogphlnakdnchaaGreat
open Go.RowKit Go.Maps
/-- A good's row set among rows that rise: what is still to come, and whether it is set. -/
def setR (s : Str) (r : SR) : Bool → Stk → Stk
  | d, [] => if d = true then [] else [(s, r)]
  | d, p :: t => (if d = false ∧ ¬ p.1 < s then [(s, r)] else []) ++ ((if p.1 = s then [] else [p]) ++ setR s r (d || !decide (p.1 < s)) t)
theorem setR_true (s : Str) (r : SR) : ∀ L : Stk, setR s r true L = delS L s
  | [] => rfl
  | p :: t => by
    have ih := setR_true s r t
    unfold setR delS
    rw [List.filter_cons]
    have e : (true || !decide (p.1 < s)) = true := rfl
    rw [e, ih]
    by_cases h : p.1 = s
    · simp [h, delS]
    · simp [h, delS]
theorem ins_front {s : Str} {r : SR} : ∀ {L : Stk}, (∀ p ∈ L, s < p.1) → insS ktS.lt (s, r) L = (s, r) :: L
  | [], _ => rfl
  | p :: t, h => by
    show (if ktS.lt s p.1 = true then (s, r) :: p :: t else p :: insS ktS.lt (s, r) t) = _
    rw [ktS_lt, if_pos (by simpa using h p (by simp))]
theorem setR_put {s : Str} {r : SR} : ∀ {L : Stk}, RiseS L → setR s r false L = putS ktS.lt L s r
  | [], _ => rfl
  | p :: t, h => by
    obtain ⟨h1, h2⟩ := List.pairwise_cons.1 h
    have ih := setR_put (s := s) (r := r) h2
    unfold putS at ih ⊢
    rcases str_tri s p.1 with hlt | he | hlt
    · have hn : ¬ p.1 < s := str_asym hlt
      have hne : ¬ p.1 = s := fun e => by rw [e] at hlt; exact str_irr _ hlt
      have e1 : delS (p :: t) s = p :: delS t s := by unfold delS; rw [List.filter_cons]; simp [hne]
      have e2 : setR s r false (p :: t) = [(s, r)] ++ ([p] ++ setR s r true t) := by
        show (if false = false ∧ ¬ p.1 < s then [(s, r)] else []) ++ ((if p.1 = s then [] else [p]) ++ setR s r (false || !decide (p.1 < s)) t) = _
        rw [if_pos ⟨rfl, hn⟩, if_neg hne, decide_eq_false hn]; rfl
      rw [e1, e2, setR_true]
      show _ = (if ktS.lt s p.1 = true then (s, r) :: p :: delS t s else p :: insS ktS.lt (s, r) (delS t s))
      rw [ktS_lt, if_pos (by simpa using hlt)]; rfl
    · have hn : ¬ p.1 < s := by rw [← he]; exact str_irr _
      have e1 : delS (p :: t) s = delS t s := by unfold delS; rw [List.filter_cons]; simp [he]
      have e2 : setR s r false (p :: t) = [(s, r)] ++ ([] ++ setR s r true t) := by
        show (if false = false ∧ ¬ p.1 < s then [(s, r)] else []) ++ ((if p.1 = s then [] else [p]) ++ setR s r (false || !decide (p.1 < s)) t) = _
        rw [if_pos ⟨rfl, hn⟩, if_pos he.symm, decide_eq_false hn]; rfl
      rw [e1, e2, setR_true, ins_front (fun q hq => by rw [he]; exact h1 q (List.mem_filter.1 hq).1)]; rfl
    · have hns : ¬ s < p.1 := str_asym hlt
      have hne : ¬ p.1 = s := fun e => by rw [e] at hlt; exact str_irr _ hlt
      have e1 : delS (p :: t) s = p :: delS t s := by unfold delS; rw [List.filter_cons]; simp [hne]
      have e2 : setR s r false (p :: t) = [] ++ ([p] ++ setR s r false t) := by
        show (if false = false ∧ ¬ p.1 < s then [(s, r)] else []) ++ ((if p.1 = s then [] else [p]) ++ setR s r (false || !decide (p.1 < s)) t) = _
        rw [if_neg (fun h => h.2 hlt), if_neg hne, decide_eq_true hlt]; rfl
      rw [e1, e2, ih]
      show _ = (if ktS.lt s p.1 = true then (s, r) :: p :: delS t s else p :: insS ktS.lt (s, r) (delS t s))
      rw [ktS_lt, if_neg (by simpa using hns)]; rfl
theorem setR_at {A : Stk} {k : Nat} {p : Str × SR} (s : Str) (r : SR) (d : Bool) (hp : A[k]? = some p) :
    setR s r d (A.drop k) = (if d = false ∧ ¬ p.1 < s then [(s, r)] else []) ++ ((if p.1 = s then [] else [p]) ++ setR s r (d || !decide (p.1 < s)) (A.drop (k + 1))) := by
  have : A.drop k = p :: A.drop (k + 1) := by
    rw [List.drop_eq_getElem_cons (List.getElem?_eq_some_iff.1 hp).1]
    rw [(List.getElem?_eq_some_iff.1 hp).2]
  rw [this]; rfl
structure SetI (W0 : World) (n1 : Nat) (s : Str) (r : SR) (A Z : Stk) (k : Nat) (v : Value) (d : Bool) (out : Stk) (W : World) : Prop where
  own : W.ownsRow n1 132 12 v out.length (rcs out)
  fr : Fr (fun b => n1 ≤ b) W0 W
  eq : out ++ setR s r d (A.drop k) = Z
  len : out.length ≤ k + (if d = true then 1 else 0)
theorem SetI.keep {W0 W W' : World} {n1 k : Nat} {s : Str} {r : SR} {A Z out : Stk} {v : Value} {d : Bool} (h : SetI W0 n1 s r A Z k v d out W) (hf : Fr (fun _ => False) W W') : SetI W0 n1 s r A Z k v d out W' :=
  ⟨hf.row h.own (fun _ _ e => e), h.fr.trans (hf.mono (fun _ _ e => e.elim)), h.eq, h.len⟩
theorem SetI.push {W0 W W' : World} {n1 k : Nat} {s : Str} {r : SR} {A Z out : Stk} {v v' : Value} {d : Bool} {p : Str × SR} (h : SetI W0 n1 s r A Z k v d out W) {o : Obj} (hn : n1 ≤ W.heap.size)
    (hown : W'.ownsRow n1 132 12 v' (out.length + 1) (rcs out ++ rowC p)) (hgrow : (W.alloc o).grownBy W' v.ownBlock) :
    W'.ownsRow n1 132 12 v' (out ++ [p]).length (rcs (out ++ [p])) ∧ Fr (fun b => n1 ≤ b) W0 W' := by
  refine ⟨?_, (h.fr.alloc o).trans (Fr.grown hgrow (fun b hb _ => (h.own.lt b hb).1))⟩
  rw [rcs_app, List.length_append]
  have : rcs [p] = rowC p := by simp [rcs]
  rw [this]; exact hown
/-- The stock's rows are set anew. -/
theorem RSX.setRows {X : List Value × TypeId} {w W0 W : World} {g n1 : Nat} {TS : Nat → Prop} {A Z : Stk} {v : Value} (h : RSX X w g TS A) (hw : Fr (fun _ => False) w W0) (hf : Fr (fun b => n1 ≤ b) W0 W) (hn : w.heap.size ≤ n1) (ho : W.ownsRow n1 132 12 v Z.length (rcs Z)) :
    RSX X (W.setCell ⟨g, 0, none⟩ v) g (fun b => TS b ∨ (n1 ≤ b ∧ b < W.heap.size)) Z ∧ Stp TS w (W.setCell ⟨g, 0, none⟩ v) (fun b => TS b ∨ (n1 ≤ b ∧ b < W.heap.size)) := by
  obtain ⟨⟨v0, h1, h2, h3⟩, h5, h6⟩ := h
  have hg := h6 g h5
  have h1' := hf.at_ (hw.at_ h1 (fun e => e)) (by omega)
  have hF : Fr (fun b => b = g) W (W.setCell ⟨g, 0, none⟩ v) := (Fr.refl (fun b => b = g) W).setCell (p := ⟨g, 0, none⟩) (fun _ => rfl) _
  have hws : w.heap.size ≤ W.heap.size := Nat.le_trans hw.size hf.size
  have hF1 : Fr TS w W := ((hw.mono (S' := TS) (fun _ _ e => e.elim)).trans' hf (fun b hb e => by omega))
  refine ⟨⟨⟨v, (obj_set h1' 0 v).trans (by rw [cons_set]), hF.row (own_base ho (Nat.zero_le _)) (fun b hb e => by have := (ho.lt b hb).1; omega), fun b hb => ⟨.inr (ho.lt b hb), by have := (ho.lt b hb).1; omega⟩⟩, .inl h5, fun b hb => ?_⟩, hF1.trans' hF (fun b _ e => e ▸ h5), fun b hb => ?_⟩
  · have := hF.size
    rcases hb with hb | hb
    · have := h6 b hb; omega
    · omega
  · rcases hb with hb | hb
    · exact .inl hb
    · exact .inr (by omega)
set_option maxRecDepth 100000 in
set_option maxHeartbeats 16000000 in
theorem r7Set {X : List Value × TypeId} (w : World) (g : Nat) (TS : Nat → Prop) (A : Stk) (s : Str) (r : SR) (h : RSX X w g TS A) (hA : RiseS A) (hl : (A.length : Int) ≤ 1048576) :
    Calls Tryz.prog 88 #[.pointer (some ⟨g, 0, none⟩), .agg (rowV s r)] w fun e w' => (∃ v, e = .returned v) ∧ ∃ TS', RSX X w' g TS' (putS ktS.lt A s r) ∧ Stp TS w w' TS' := by
  obtain ⟨n0, hn0⟩ : ∃ n0, w.heap.size = n0 := ⟨_, rfl⟩
  obtain ⟨W0, hW0⟩ : ∃ W0, w.alloc (.cells (rowV s r) 132) = W0 := ⟨_, rfl⟩
  have hF0 : Fr (fun _ => False) w W0 := by rw [← hW0]; exact (Fr.refl _ w).alloc _
  have hB0 : W0.heap[n0]? = some (.cells (rowV s r) 132) := by rw [← hW0, ← hn0]; exact heap_new _ _
  have hS0 : W0.heap.size = n0 + 1 := by rw [← hW0, ← hn0]; simp
  have hltg := h.lt
  have hR0 := h.fr hF0 (fun _ _ e => e)
  obtain ⟨n, hn⟩ : ∃ n, A.length = n := ⟨_, rfl⟩
  have hput := setR_put (s := s) (r := r) hA
  obtain ⟨Z, hZ⟩ : ∃ Z, putS ktS.lt A s r = Z := ⟨_, rfl⟩
  rw [hZ] at hput ⊢
  have HRW := Lib.hid h
  have HF0 := Lib.hid hF0; have HB0 := Lib.hid hB0; have HS0 := Lib.hid hS0; have HLT := Lib.hid hltg; have HR0 := Lib.hid hR0; have HN := Lib.hid hn; have HZ := Lib.hid hput; have HSZ := Lib.hid hn0
  have hln : (n : Int) ≤ 1048576 := by rw [← hn]; exact hl
  have hkeep : ∀ {W}, Fr (fun b => n0 + 1 ≤ b) W0 W → RSX X W g TS A ∧ ∀ (j : Nat) (u : Value), (rowV s r)[j]? = some u → W.cell? ⟨n0, j, none⟩ = some u := fun {W} hf =>
    ⟨HR0.out.fr hf (fun b hb e => by have := HLT.out b hb; omega), fun j u hu => cell_obj (hf.at_ HB0.out (by omega)) j u hu⟩
  have HK := Lib.hid (fun W => @hkeep W)
  clear h hA hl hF0 hB0 hS0 hltg hR0 hn hZ hput hkeep
  unfold rowV at hW0 ⊢
  go_enter Tryz.func88, Tryz.ntmps88
  go_wp2_with fail
  clear hW0 hn0
  go_loopw [6, 4, 5] (fun i v d wr => ∃ (k : Nat) (b : Bool) (out : Stk), k ≤ n ∧ i = .int .i64 k ∧ d = .bool b ∧ SetI W0 (n0 + 1) s r A Z k v b out wr) (fun i _ _ _ => n - (intOf i).toNat)
  case atStart => exact ⟨0, false, [], by omega, rfl, rfl, ⟨⟨by simp [rcs], .inl ⟨rfl, rfl⟩⟩, Fr.refl _ _, by rw [List.nil_append, List.drop_zero]; exact HZ.out, by simp⟩⟩
  case round =>

    obtain ⟨k, d, out, hk, rfl, rfl, hI⟩ := hrel
    have HI := Lib.hid hI
    clear hI
    obtain ⟨i0, hi', hz0, hz1, hz2⟩ := info_parts infoRow7
    have hsz : Hid (n0 + 1 ≤ wr.heap.size) := Lib.hid (by have := HI.out.fr.size; have := HS0.out; omega)
    have hol : Hid (out.length ≤ k + 1) := Lib.hid (by have := HI.out.len; split at this <;> omega)
    have HOL1 : Hid (out.length + 1 ≤ 1048578) := Lib.hid (by have := hol.out; omega)
    have hsc := (HK.out wr HI.out.fr).1.cell
    obtain ⟨sa, sc, sc0, srow, -⟩ := hsc
    rw [HN.out] at sc0 srow
    by_cases hlt : k < n
    · obtain ⟨p, hp⟩ : ∃ p, A[k]? = some p := ⟨A[k]'(by rw [HN.out]; exact hlt), List.getElem?_eq_getElem _⟩
      have HP := Lib.hid hp
      have hst := setR_at s r d hp
      have HST := Lib.hid hst
      obtain ⟨gp, rfl, hrc⟩ := row12 srow HN.out.symm hp
      obtain ⟨gd, q⟩ := p
      have y0 := hrc 0 (vS gd) rfl
      rw [Nat.add_zero] at y0
      have x0 := (HK.out wr HI.out.fr).2 0 (vS s) rfl
      have hltI : (k : Int) < n := by omega
      clear hrc srow hp hst
      rcases str_tri gd s with hgs | hgs | hgs
      · have hne : ¬ gd = s := fun e => str_irr s (e ▸ hgs)
        have q1 : Op.bytesLess gd s = true := by rw [bytesLess_eq]; simpa using hgs
        have q2 : (gd == s) = false := by simpa using hne
        have q3 : ∀ W, (binOp .neq 9 (vS gd) (vS s)).run Tryz.prog W = .ok (.bool true) W := fun W => by simp [go_sem, hne]
        have HGS := Lib.hid (And.intro hgs hne)
        clear hgs hne
        cases d
        · go_wp2_with fail
          go_big_quiet (fail)
          obtain ⟨W1, hW1⟩ : ∃ W1, wr.drewN nq = W1 := ⟨_, rfl⟩
          rw [hW1]
          have HI1 : Hid (SetI W0 (n0 + 1) s r A Z k u4 false out W1) := Lib.hid (hW1 ▸ HI.out.keep ((Fr.refl _ _).drewN _))
          have SZW1 : Hid (n0 + 1 ≤ W1.heap.size) := Lib.hid (by have := HI1.out.fr.size; have := HS0.out; omega)
          clear hW1 sc0 y0 x0
          have x0 := (HK.out W1 HI1.out.fr).2 0 (vS s) rfl
          have hsc := (HK.out W1 HI1.out.fr).1.cell
          obtain ⟨sa, sc, sc0, srow, -⟩ := hsc
          rw [HN.out] at sc0 srow
          obtain ⟨gp, rfl, hrc⟩ := row12 srow HN.out.symm HP.out
          have y0 := hrc 0 (vS gd) rfl
          rw [Nat.add_zero] at y0
          clear hrc srow
          go_wp2_with fail
          go_big_quiet (fail)
          obtain ⟨W2, hW2⟩ : ∃ W2, W1.drewN nq = W2 := ⟨_, rfl⟩
          rw [hW2]
          have HI2 : Hid (SetI W0 (n0 + 1) s r A Z k u4 false out W2) := Lib.hid (hW2 ▸ HI1.out.keep ((Fr.refl _ _).drewN _))
          have SZW2 : Hid (n0 + 1 ≤ W2.heap.size) := Lib.hid (by have := HI2.out.fr.size; have := HS0.out; omega)
          have HOL2 : Hid (out.length + 1 ≤ 1048578) := Lib.hid (by have := hol.out; omega)
          clear hW2 sc0 y0 x0
          have hsc := (HK.out W2 HI2.out.fr).1.cell
          obtain ⟨sa, sc, sc0, srow, -⟩ := hsc
          rw [HN.out] at sc0 srow
          obtain ⟨gp, rfl, hrc⟩ := row12 srow HN.out.symm HP.out
          have y0 := hrc 0 (vS gd) rfl
          rw [Nat.add_zero] at y0
          have y1 := hrc 1 (.int .i64 q.free) rfl
          have y2 := hrc 2 (.int .i64 q.held) rfl
          have y3 := hrc 3 (.int .i64 q.picked) rfl
          have y4 := hrc 4 (.int .i64 q.aside) rfl
          have y5 := hrc 5 (.int .i64 q.received) rfl
          have y6 := hrc 6 (.int .i64 q.returned) rfl
          have y7 := hrc 7 (.int .i64 q.counted) rfl
          have y8 := hrc 8 (.int .i64 q.came) rfl
          have y9 := hrc 9 (.int .i64 q.shipped) rfl
          have y10 := hrc 10 (.int .i64 q.scrapped) rfl
          have y11 := hrc 11 (.int .i64 q.sent) rfl
          clear hrc srow
          go_wp2_with (at_builtin; refine wpList_append_src rfl _ _ 41 rfl (n0 + 1) 132 i0 (.agg (rowV [] SR.zero)) 104 Tryz.underlying41 hi' hz0 hz1 hz2 rfl (by decide) _ _ (rcs out) rfl (((Fr.refl (fun _ => False) W2).alloc _).row HI2.out.own (fun _ _ e => e)) 1 rfl (rd_obj (cs := [vS gd, .int .i64 q.free, .int .i64 q.held, .int .i64 q.picked, .int .i64 q.aside, .int .i64 q.received, .int .i64 q.returned, .int .i64 q.counted, .int .i64 q.came, .int .i64 q.shipped, .int .i64 q.scrapped, .int .i64 q.sent]) (heap_new _ _) rfl) (fun u hu => rowC_one (p := (gd, q)) hu) (by unfold maxLen; have := HOL2.out; omega) (by have := HOL2.out; omega) (by simp; have := SZW2.out; omega) ?_; intro vb wb hownb hgrowb hlocb; have hPb := HI2.out.push (p := (gd, q)) SZW2.out hownb hgrowb; have HPb := Lib.hid hPb; clear hownb hgrowb hlocb hPb)
          go_roundw
          case rel => exact ⟨k + 1, false, (out ++ [(gd, q)]), by omega, by go_num, (by first | rfl | trivial), ⟨HPb.out.1, HPb.out.2, by
            have e := HI.out.eq
            have h0 := HGS.out
            rw [HST.out] at e
            simp [h0.1, h0.2] at e ⊢
            exact e, by have := HI.out.len; simp at this ⊢; omega⟩⟩
          case measure => simp [intOf]; omega
        · go_wp2_with fail
          go_big_quiet (fail)
          obtain ⟨W1, hW1⟩ : ∃ W1, wr.drewN nq = W1 := ⟨_, rfl⟩
          rw [hW1]
          have HI1 : Hid (SetI W0 (n0 + 1) s r A Z k u4 true out W1) := Lib.hid (hW1 ▸ HI.out.keep ((Fr.refl _ _).drewN _))
          have SZW1 : Hid (n0 + 1 ≤ W1.heap.size) := Lib.hid (by have := HI1.out.fr.size; have := HS0.out; omega)
          clear hW1 sc0 y0 x0
          have x0 := (HK.out W1 HI1.out.fr).2 0 (vS s) rfl
          have hsc := (HK.out W1 HI1.out.fr).1.cell
          obtain ⟨sa, sc, sc0, srow, -⟩ := hsc
          rw [HN.out] at sc0 srow
          obtain ⟨gp, rfl, hrc⟩ := row12 srow HN.out.symm HP.out
          have y0 := hrc 0 (vS gd) rfl
          rw [Nat.add_zero] at y0
          clear hrc srow
          go_wp2_with fail
          go_big_quiet (fail)
          obtain ⟨W2, hW2⟩ : ∃ W2, W1.drewN nq = W2 := ⟨_, rfl⟩
          rw [hW2]
          have HI2 : Hid (SetI W0 (n0 + 1) s r A Z k u4 true out W2) := Lib.hid (hW2 ▸ HI1.out.keep ((Fr.refl _ _).drewN _))
          have SZW2 : Hid (n0 + 1 ≤ W2.heap.size) := Lib.hid (by have := HI2.out.fr.size; have := HS0.out; omega)
          have HOL2 : Hid (out.length + 1 ≤ 1048578) := Lib.hid (by have := hol.out; omega)
          clear hW2 sc0 y0 x0
          have hsc := (HK.out W2 HI2.out.fr).1.cell
          obtain ⟨sa, sc, sc0, srow, -⟩ := hsc
          rw [HN.out] at sc0 srow
          obtain ⟨gp, rfl, hrc⟩ := row12 srow HN.out.symm HP.out
          have y0 := hrc 0 (vS gd) rfl
          rw [Nat.add_zero] at y0
          have y1 := hrc 1 (.int .i64 q.free) rfl
          have y2 := hrc 2 (.int .i64 q.held) rfl
          have y3 := hrc 3 (.int .i64 q.picked) rfl
          have y4 := hrc 4 (.int .i64 q.aside) rfl
          have y5 := hrc 5 (.int .i64 q.received) rfl
          have y6 := hrc 6 (.int .i64 q.returned) rfl
          have y7 := hrc 7 (.int .i64 q.counted) rfl
          have y8 := hrc 8 (.int .i64 q.came) rfl
          have y9 := hrc 9 (.int .i64 q.shipped) rfl
          have y10 := hrc 10 (.int .i64 q.scrapped) rfl
          have y11 := hrc 11 (.int .i64 q.sent) rfl
          clear hrc srow
          go_wp2_with (at_builtin; refine wpList_append_src rfl _ _ 41 rfl (n0 + 1) 132 i0 (.agg (rowV [] SR.zero)) 104 Tryz.underlying41 hi' hz0 hz1 hz2 rfl (by decide) _ _ (rcs out) rfl (((Fr.refl (fun _ => False) W2).alloc _).row HI2.out.own (fun _ _ e => e)) 1 rfl (rd_obj (cs := [vS gd, .int .i64 q.free, .int .i64 q.held, .int .i64 q.picked, .int .i64 q.aside, .int .i64 q.received, .int .i64 q.returned, .int .i64 q.counted, .int .i64 q.came, .int .i64 q.shipped, .int .i64 q.scrapped, .int .i64 q.sent]) (heap_new _ _) rfl) (fun u hu => rowC_one (p := (gd, q)) hu) (by unfold maxLen; have := HOL2.out; omega) (by have := HOL2.out; omega) (by simp; have := SZW2.out; omega) ?_; intro vb wb hownb hgrowb hlocb; have hPb := HI2.out.push (p := (gd, q)) SZW2.out hownb hgrowb; have HPb := Lib.hid hPb; clear hownb hgrowb hlocb hPb)
          go_roundw
          case rel => exact ⟨k + 1, true, (out ++ [(gd, q)]), by omega, by go_num, (by first | rfl | trivial), ⟨HPb.out.1, HPb.out.2, by
            have e := HI.out.eq
            have h0 := HGS.out
            rw [HST.out] at e
            simp [h0.1, h0.2] at e ⊢
            exact e, by have := HI.out.len; simp at this ⊢; omega⟩⟩
          case measure => simp [intOf]; omega
      · have hnl : ¬ gd < s := by rw [hgs]; exact str_irr _
        have q1 : Op.bytesLess gd s = false := by rw [bytesLess_eq]; simpa using hnl
        have q2 : (gd == s) = true := by simpa using hgs
        have q3 : ∀ W, (binOp .neq 9 (vS gd) (vS s)).run Tryz.prog W = .ok (.bool false) W := fun W => by simp [go_sem, hgs]
        have HGS := Lib.hid (And.intro hgs hnl)
        clear hgs hnl
        cases d
        · go_wp2_with fail
          go_big_quiet (fail)
          obtain ⟨W1, hW1⟩ : ∃ W1, wr.drewN nq = W1 := ⟨_, rfl⟩
          rw [hW1]
          have HI1 : Hid (SetI W0 (n0 + 1) s r A Z k u4 false out W1) := Lib.hid (hW1 ▸ HI.out.keep ((Fr.refl _ _).drewN _))
          have SZW1 : Hid (n0 + 1 ≤ W1.heap.size) := Lib.hid (by have := HI1.out.fr.size; have := HS0.out; omega)
          clear hW1 sc0 y0 x0
          have hbc := (HK.out W1 HI1.out.fr).2
          have x0 := hbc 0 (vS s) rfl
          have x1 := hbc 1 (.int .i64 r.free) rfl
          have x2 := hbc 2 (.int .i64 r.held) rfl
          have x3 := hbc 3 (.int .i64 r.picked) rfl
          have x4 := hbc 4 (.int .i64 r.aside) rfl
          have x5 := hbc 5 (.int .i64 r.received) rfl
          have x6 := hbc 6 (.int .i64 r.returned) rfl
          have x7 := hbc 7 (.int .i64 r.counted) rfl
          have x8 := hbc 8 (.int .i64 r.came) rfl
          have x9 := hbc 9 (.int .i64 r.shipped) rfl
          have x10 := hbc 10 (.int .i64 r.scrapped) rfl
          have x11 := hbc 11 (.int .i64 r.sent) rfl
          clear hbc
          go_wp2_with (at_builtin; refine wpList_append_src rfl _ _ 41 rfl (n0 + 1) 132 i0 (.agg (rowV [] SR.zero)) 104 Tryz.underlying41 hi' hz0 hz1 hz2 rfl (by decide) _ _ (rcs out) rfl (((Fr.refl (fun _ => False) W1).alloc _).row HI1.out.own (fun _ _ e => e)) 1 rfl (rd_obj (cs := [vS s, .int .i64 r.free, .int .i64 r.held, .int .i64 r.picked, .int .i64 r.aside, .int .i64 r.received, .int .i64 r.returned, .int .i64 r.counted, .int .i64 r.came, .int .i64 r.shipped, .int .i64 r.scrapped, .int .i64 r.sent]) (heap_new _ _) rfl) (fun u hu => rowC_one (p := (s, r)) hu) (by unfold maxLen; have := HOL1.out; omega) (by have := HOL1.out; omega) (by simp; have := SZW1.out; omega) ?_; intro va wa howna hgrowa hloca; have hPa := HI1.out.push (p := (s, r)) SZW1.out howna hgrowa; have HPa := Lib.hid hPa; clear howna hgrowa hloca hPa)
          have HIa : Hid (SetI W0 (n0 + 1) s r A (out ++ [(s, r)] ++ setR s r true (A.drop k)) k va true (out ++ [(s, r)]) wa) := Lib.hid ⟨HPa.out.1, HPa.out.2, rfl, by have := HI.out.len; simp at this ⊢; omega⟩
          have SZwa : Hid (n0 + 1 ≤ wa.heap.size) := Lib.hid (by have := HIa.out.fr.size; have := HS0.out; omega)
          clear x0 x1 x2 x3 x4 x5 x6 x7 x8 x9 x10 x11
          have x0 := (HK.out wa HIa.out.fr).2 0 (vS s) rfl
          have hsc := (HK.out wa HIa.out.fr).1.cell
          obtain ⟨sa, sc, sc0, srow, -⟩ := hsc
          rw [HN.out] at sc0 srow
          obtain ⟨gp, rfl, hrc⟩ := row12 srow HN.out.symm HP.out
          have y0 := hrc 0 (vS gd) rfl
          rw [Nat.add_zero] at y0
          clear hrc srow
          go_big_quiet (fail)
          obtain ⟨W2, hW2⟩ : ∃ W2, wa.drewN nq = W2 := ⟨_, rfl⟩
          rw [hW2]
          have HI2 : Hid (SetI W0 (n0 + 1) s r A (out ++ [(s, r)] ++ setR s r true (A.drop k)) k va true (out ++ [(s, r)]) W2) := Lib.hid (hW2 ▸ HIa.out.keep ((Fr.refl _ _).drewN _))
          have SZW2 : Hid (n0 + 1 ≤ W2.heap.size) := Lib.hid (by have := HI2.out.fr.size; have := HS0.out; omega)
          have HOL2 : Hid ((out ++ [(s, r)]).length + 1 ≤ 1048578) := Lib.hid (by have := hol.out; simp; omega)
          clear hW2 sc0 y0 x0
          go_wp2_with fail
          go_roundw
          case rel => exact ⟨k + 1, true, (out ++ [(s, r)]), by omega, by go_num, (by first | rfl | trivial), ⟨HI2.out.own, HI2.out.fr, by
            have e := HI.out.eq
            have h0 := HGS.out
            rw [HST.out] at e
            simp [h0.1, h0.2, str_irr] at e ⊢
            exact e, by have := HI.out.len; simp at this ⊢; omega⟩⟩
          case measure => simp [intOf]; omega
        · go_wp2_with fail
          go_big_quiet (fail)
          obtain ⟨W1, hW1⟩ : ∃ W1, wr.drewN nq = W1 := ⟨_, rfl⟩
          rw [hW1]
          have HI1 : Hid (SetI W0 (n0 + 1) s r A Z k u4 true out W1) := Lib.hid (hW1 ▸ HI.out.keep ((Fr.refl _ _).drewN _))
          have SZW1 : Hid (n0 + 1 ≤ W1.heap.size) := Lib.hid (by have := HI1.out.fr.size; have := HS0.out; omega)
          clear hW1 sc0 y0 x0
          have x0 := (HK.out W1 HI1.out.fr).2 0 (vS s) rfl
          have hsc := (HK.out W1 HI1.out.fr).1.cell
          obtain ⟨sa, sc, sc0, srow, -⟩ := hsc
          rw [HN.out] at sc0 srow
          obtain ⟨gp, rfl, hrc⟩ := row12 srow HN.out.symm HP.out
          have y0 := hrc 0 (vS gd) rfl
          rw [Nat.add_zero] at y0
          clear hrc srow
          go_wp2_with fail
          go_big_quiet (fail)
          obtain ⟨W2, hW2⟩ : ∃ W2, W1.drewN nq = W2 := ⟨_, rfl⟩
          rw [hW2]
          have HI2 : Hid (SetI W0 (n0 + 1) s r A Z k u4 true out W2) := Lib.hid (hW2 ▸ HI1.out.keep ((Fr.refl _ _).drewN _))
          have SZW2 : Hid (n0 + 1 ≤ W2.heap.size) := Lib.hid (by have := HI2.out.fr.size; have := HS0.out; omega)
          have HOL2 : Hid (out.length + 1 ≤ 1048578) := Lib.hid (by have := hol.out; omega)
          clear hW2 sc0 y0 x0
          go_wp2_with fail
          go_roundw
          case rel => exact ⟨k + 1, true, out, by omega, by go_num, (by first | rfl | trivial), ⟨HI2.out.own, HI2.out.fr, by
            have e := HI.out.eq
            have h0 := HGS.out
            rw [HST.out] at e
            simp [h0.1, h0.2, str_irr] at e ⊢
            exact e, by have := HI.out.len; simp at this ⊢; omega⟩⟩
          case measure => simp [intOf]; omega
      · have hnl : ¬ gd < s := str_asym hgs
        have hne : ¬ gd = s := fun e => str_irr s (e ▸ hgs)
        have q1 : Op.bytesLess gd s = false := by rw [bytesLess_eq]; simpa using hnl
        have q2 : (gd == s) = false := by simpa using hne
        have q3 : ∀ W, (binOp .neq 9 (vS gd) (vS s)).run Tryz.prog W = .ok (.bool true) W := fun W => by simp [go_sem, hne]
        have HGS := Lib.hid (And.intro hnl hne)
        clear hgs hnl hne
        cases d
        · go_wp2_with fail
          go_big_quiet (fail)
          obtain ⟨W1, hW1⟩ : ∃ W1, wr.drewN nq = W1 := ⟨_, rfl⟩
          rw [hW1]
          have HI1 : Hid (SetI W0 (n0 + 1) s r A Z k u4 false out W1) := Lib.hid (hW1 ▸ HI.out.keep ((Fr.refl _ _).drewN _))
          have SZW1 : Hid (n0 + 1 ≤ W1.heap.size) := Lib.hid (by have := HI1.out.fr.size; have := HS0.out; omega)
          clear hW1 sc0 y0 x0
          have hbc := (HK.out W1 HI1.out.fr).2
          have x0 := hbc 0 (vS s) rfl
          have x1 := hbc 1 (.int .i64 r.free) rfl
          have x2 := hbc 2 (.int .i64 r.held) rfl
          have x3 := hbc 3 (.int .i64 r.picked) rfl
          have x4 := hbc 4 (.int .i64 r.aside) rfl
          have x5 := hbc 5 (.int .i64 r.received) rfl
          have x6 := hbc 6 (.int .i64 r.returned) rfl
          have x7 := hbc 7 (.int .i64 r.counted) rfl
          have x8 := hbc 8 (.int .i64 r.came) rfl
          have x9 := hbc 9 (.int .i64 r.shipped) rfl
          have x10 := hbc 10 (.int .i64 r.scrapped) rfl
          have x11 := hbc 11 (.int .i64 r.sent) rfl
          clear hbc
          go_wp2_with (at_builtin; refine wpList_append_src rfl _ _ 41 rfl (n0 + 1) 132 i0 (.agg (rowV [] SR.zero)) 104 Tryz.underlying41 hi' hz0 hz1 hz2 rfl (by decide) _ _ (rcs out) rfl (((Fr.refl (fun _ => False) W1).alloc _).row HI1.out.own (fun _ _ e => e)) 1 rfl (rd_obj (cs := [vS s, .int .i64 r.free, .int .i64 r.held, .int .i64 r.picked, .int .i64 r.aside, .int .i64 r.received, .int .i64 r.returned, .int .i64 r.counted, .int .i64 r.came, .int .i64 r.shipped, .int .i64 r.scrapped, .int .i64 r.sent]) (heap_new _ _) rfl) (fun u hu => rowC_one (p := (s, r)) hu) (by unfold maxLen; have := HOL1.out; omega) (by have := HOL1.out; omega) (by simp; have := SZW1.out; omega) ?_; intro va wa howna hgrowa hloca; have hPa := HI1.out.push (p := (s, r)) SZW1.out howna hgrowa; have HPa := Lib.hid hPa; clear howna hgrowa hloca hPa)
          have HIa : Hid (SetI W0 (n0 + 1) s r A (out ++ [(s, r)] ++ setR s r true (A.drop k)) k va true (out ++ [(s, r)]) wa) := Lib.hid ⟨HPa.out.1, HPa.out.2, rfl, by have := HI.out.len; simp at this ⊢; omega⟩
          have SZwa : Hid (n0 + 1 ≤ wa.heap.size) := Lib.hid (by have := HIa.out.fr.size; have := HS0.out; omega)
          clear x0 x1 x2 x3 x4 x5 x6 x7 x8 x9 x10 x11
          have x0 := (HK.out wa HIa.out.fr).2 0 (vS s) rfl
          have hsc := (HK.out wa HIa.out.fr).1.cell
          obtain ⟨sa, sc, sc0, srow, -⟩ := hsc
          rw [HN.out] at sc0 srow
          obtain ⟨gp, rfl, hrc⟩ := row12 srow HN.out.symm HP.out
          have y0 := hrc 0 (vS gd) rfl
          rw [Nat.add_zero] at y0
          clear hrc srow
          go_big_quiet (fail)
          obtain ⟨W2, hW2⟩ : ∃ W2, wa.drewN nq = W2 := ⟨_, rfl⟩
          rw [hW2]
          have HI2 : Hid (SetI W0 (n0 + 1) s r A (out ++ [(s, r)] ++ setR s r true (A.drop k)) k va true (out ++ [(s, r)]) W2) := Lib.hid (hW2 ▸ HIa.out.keep ((Fr.refl _ _).drewN _))
          have SZW2 : Hid (n0 + 1 ≤ W2.heap.size) := Lib.hid (by have := HI2.out.fr.size; have := HS0.out; omega)
          have HOL2 : Hid ((out ++ [(s, r)]).length + 1 ≤ 1048578) := Lib.hid (by have := hol.out; simp; omega)
          clear hW2 sc0 y0 x0
          have hsc := (HK.out W2 HI2.out.fr).1.cell
          obtain ⟨sa, sc, sc0, srow, -⟩ := hsc
          rw [HN.out] at sc0 srow
          obtain ⟨gp, rfl, hrc⟩ := row12 srow HN.out.symm HP.out
          have y0 := hrc 0 (vS gd) rfl
          rw [Nat.add_zero] at y0
          have y1 := hrc 1 (.int .i64 q.free) rfl
          have y2 := hrc 2 (.int .i64 q.held) rfl
          have y3 := hrc 3 (.int .i64 q.picked) rfl
          have y4 := hrc 4 (.int .i64 q.aside) rfl
          have y5 := hrc 5 (.int .i64 q.received) rfl
          have y6 := hrc 6 (.int .i64 q.returned) rfl
          have y7 := hrc 7 (.int .i64 q.counted) rfl
          have y8 := hrc 8 (.int .i64 q.came) rfl
          have y9 := hrc 9 (.int .i64 q.shipped) rfl
          have y10 := hrc 10 (.int .i64 q.scrapped) rfl
          have y11 := hrc 11 (.int .i64 q.sent) rfl
          clear hrc srow
          go_wp2_with (at_builtin; refine wpList_append_src rfl _ _ 41 rfl (n0 + 1) 132 i0 (.agg (rowV [] SR.zero)) 104 Tryz.underlying41 hi' hz0 hz1 hz2 rfl (by decide) _ _ (rcs (out ++ [(s, r)])) rfl (((Fr.refl (fun _ => False) W2).alloc _).row HI2.out.own (fun _ _ e => e)) 1 rfl (rd_obj (cs := [vS gd, .int .i64 q.free, .int .i64 q.held, .int .i64 q.picked, .int .i64 q.aside, .int .i64 q.received, .int .i64 q.returned, .int .i64 q.counted, .int .i64 q.came, .int .i64 q.shipped, .int .i64 q.scrapped, .int .i64 q.sent]) (heap_new _ _) rfl) (fun u hu => rowC_one (p := (gd, q)) hu) (by unfold maxLen; have := HOL2.out; omega) (by have := HOL2.out; omega) (by simp; have := SZW2.out; omega) ?_; intro vb wb hownb hgrowb hlocb; have hPb := HI2.out.push (p := (gd, q)) SZW2.out hownb hgrowb; have HPb := Lib.hid hPb; clear hownb hgrowb hlocb hPb)
          go_roundw
          case rel => exact ⟨k + 1, true, ((out ++ [(s, r)]) ++ [(gd, q)]), by omega, by go_num, (by first | rfl | trivial), ⟨HPb.out.1, HPb.out.2, by
            have e := HI.out.eq
            have h0 := HGS.out
            rw [HST.out] at e
            simp [h0.1, h0.2] at e ⊢
            exact e, by have := HI.out.len; simp at this ⊢; omega⟩⟩
          case measure => simp [intOf]; omega
        · go_wp2_with fail
          go_big_quiet (fail)
          obtain ⟨W1, hW1⟩ : ∃ W1, wr.drewN nq = W1 := ⟨_, rfl⟩
          rw [hW1]
          have HI1 : Hid (SetI W0 (n0 + 1) s r A Z k u4 true out W1) := Lib.hid (hW1 ▸ HI.out.keep ((Fr.refl _ _).drewN _))
          have SZW1 : Hid (n0 + 1 ≤ W1.heap.size) := Lib.hid (by have := HI1.out.fr.size; have := HS0.out; omega)
          clear hW1 sc0 y0 x0
          have x0 := (HK.out W1 HI1.out.fr).2 0 (vS s) rfl
          have hsc := (HK.out W1 HI1.out.fr).1.cell
          obtain ⟨sa, sc, sc0, srow, -⟩ := hsc
          rw [HN.out] at sc0 srow
          obtain ⟨gp, rfl, hrc⟩ := row12 srow HN.out.symm HP.out
          have y0 := hrc 0 (vS gd) rfl
          rw [Nat.add_zero] at y0
          clear hrc srow
          go_wp2_with fail
          go_big_quiet (fail)
          obtain ⟨W2, hW2⟩ : ∃ W2, W1.drewN nq = W2 := ⟨_, rfl⟩
          rw [hW2]
          have HI2 : Hid (SetI W0 (n0 + 1) s r A Z k u4 true out W2) := Lib.hid (hW2 ▸ HI1.out.keep ((Fr.refl _ _).drewN _))
          have SZW2 : Hid (n0 + 1 ≤ W2.heap.size) := Lib.hid (by have := HI2.out.fr.size; have := HS0.out; omega)
          have HOL2 : Hid (out.length + 1 ≤ 1048578) := Lib.hid (by have := hol.out; omega)
          clear hW2 sc0 y0 x0
          have hsc := (HK.out W2 HI2.out.fr).1.cell
          obtain ⟨sa, sc, sc0, srow, -⟩ := hsc
          rw [HN.out] at sc0 srow
          obtain ⟨gp, rfl, hrc⟩ := row12 srow HN.out.symm HP.out
          have y0 := hrc 0 (vS gd) rfl
          rw [Nat.add_zero] at y0
          have y1 := hrc 1 (.int .i64 q.free) rfl
          have y2 := hrc 2 (.int .i64 q.held) rfl
          have y3 := hrc 3 (.int .i64 q.picked) rfl
          have y4 := hrc 4 (.int .i64 q.aside) rfl
          have y5 := hrc 5 (.int .i64 q.received) rfl
          have y6 := hrc 6 (.int .i64 q.returned) rfl
          have y7 := hrc 7 (.int .i64 q.counted) rfl
          have y8 := hrc 8 (.int .i64 q.came) rfl
          have y9 := hrc 9 (.int .i64 q.shipped) rfl
          have y10 := hrc 10 (.int .i64 q.scrapped) rfl
          have y11 := hrc 11 (.int .i64 q.sent) rfl
          clear hrc srow
          go_wp2_with (at_builtin; refine wpList_append_src rfl _ _ 41 rfl (n0 + 1) 132 i0 (.agg (rowV [] SR.zero)) 104 Tryz.underlying41 hi' hz0 hz1 hz2 rfl (by decide) _ _ (rcs out) rfl (((Fr.refl (fun _ => False) W2).alloc _).row HI2.out.own (fun _ _ e => e)) 1 rfl (rd_obj (cs := [vS gd, .int .i64 q.free, .int .i64 q.held, .int .i64 q.picked, .int .i64 q.aside, .int .i64 q.received, .int .i64 q.returned, .int .i64 q.counted, .int .i64 q.came, .int .i64 q.shipped, .int .i64 q.scrapped, .int .i64 q.sent]) (heap_new _ _) rfl) (fun u hu => rowC_one (p := (gd, q)) hu) (by unfold maxLen; have := HOL2.out; omega) (by have := HOL2.out; omega) (by simp; have := SZW2.out; omega) ?_; intro vb wb hownb hgrowb hlocb; have hPb := HI2.out.push (p := (gd, q)) SZW2.out hownb hgrowb; have HPb := Lib.hid hPb; clear hownb hgrowb hlocb hPb)
          go_roundw
          case rel => exact ⟨k + 1, true, (out ++ [(gd, q)]), by omega, by go_num, (by first | rfl | trivial), ⟨HPb.out.1, HPb.out.2, by
            have e := HI.out.eq
            have h0 := HGS.out
            rw [HST.out] at e
            simp [h0.1, h0.2] at e ⊢
            exact e, by have := HI.out.len; simp at this ⊢; omega⟩⟩
          case measure => simp [intOf]; omega
    · obtain rfl : k = n := by omega
      have hfz : Hid (∀ W', Fr (fun b => n0 + 1 ≤ b) W0 W' → W'.frozen? ⟨g, 0, none⟩ = false ∧ ∃ a c, W'.cell? ⟨g, 0, none⟩ = some (.slice a k c)) := Lib.hid (fun W' hf => by
        obtain ⟨⟨v0, h1, -, -⟩, -, -⟩ := id (HK.out W' hf).1
        obtain ⟨a, c, h2, -⟩ := (HK.out W' hf).1.cell
        rw [HN.out] at h2
        exact ⟨obj_frozen h1 0, a, c, h2⟩)
      have hfin : Hid (∀ W' v', Fr (fun b => n0 + 1 ≤ b) W0 W' → W'.ownsRow (n0 + 1) 132 12 v' Z.length (rcs Z) → RSX X (W'.setCell ⟨g, 0, none⟩ v') g (fun b => TS b ∨ (n0 + 1 ≤ b ∧ b < W'.heap.size)) Z ∧ Stp TS w (W'.setCell ⟨g, 0, none⟩ v') (fun b => TS b ∨ (n0 + 1 ≤ b ∧ b < W'.heap.size))) := Lib.hid (fun W' v' hf ho => RSX.setRows HRW.out HF0.out hf (by have := HSZ.out; omega) ho)
      have hze : Hid (out ++ (if d = true then [] else [(s, r)]) = Z) := Lib.hid (by
        have e := HI.out.eq
        rw [List.drop_of_length_le (by rw [HN.out]; omega)] at e
        exact e)
      have x0 := (HK.out wr HI.out.fr).2 0 (vS s) rfl
      have x1 := (HK.out wr HI.out.fr).2 1 (.int .i64 r.free) rfl
      have x2 := (HK.out wr HI.out.fr).2 2 (.int .i64 r.held) rfl
      have x3 := (HK.out wr HI.out.fr).2 3 (.int .i64 r.picked) rfl
      have x4 := (HK.out wr HI.out.fr).2 4 (.int .i64 r.aside) rfl
      have x5 := (HK.out wr HI.out.fr).2 5 (.int .i64 r.received) rfl
      have x6 := (HK.out wr HI.out.fr).2 6 (.int .i64 r.returned) rfl
      have x7 := (HK.out wr HI.out.fr).2 7 (.int .i64 r.counted) rfl
      have x8 := (HK.out wr HI.out.fr).2 8 (.int .i64 r.came) rfl
      have x9 := (HK.out wr HI.out.fr).2 9 (.int .i64 r.shipped) rfl
      have x10 := (HK.out wr HI.out.fr).2 10 (.int .i64 r.scrapped) rfl
      have x11 := (HK.out wr HI.out.fr).2 11 (.int .i64 r.sent) rfl
      clear srow
      have HOL2 : Hid (out.length + 1 ≤ 1048578) := Lib.hid (by have := hol.out; omega)
      cases d with
      | true =>
        have hzA : Hid (out = Z) := Lib.hid (by have := hze.out; simpa using this)
        obtain ⟨fz, a, c, hcg⟩ := hfz.out wr HI.out.fr
        obtain ⟨va, vc, rfl⟩ := row_sl HI.out.own
        go_wp2_with fail
        go_end0
        refine ⟨⟨_, rfl⟩, _, hfin.out _ _ HI.out.fr ?_⟩
        rw [← hzA.out]; exact HI.out.own
      | false =>
        have hzA : Hid (out ++ [(s, r)] = Z) := Lib.hid (by have := hze.out; simpa using this)
        go_wp2_with (at_builtin; refine wpList_append_src rfl _ _ 41 rfl (n0 + 1) 132 i0 (.agg (rowV [] SR.zero)) 104 Tryz.underlying41 hi' hz0 hz1 hz2 rfl (by decide) _ _ (rcs out) rfl (((Fr.refl (fun _ => False) wr).alloc _).row HI.out.own (fun _ _ e => e)) 1 rfl (rd_obj (cs := [vS s, .int .i64 r.free, .int .i64 r.held, .int .i64 r.picked, .int .i64 r.aside, .int .i64 r.received, .int .i64 r.returned, .int .i64 r.counted, .int .i64 r.came, .int .i64 r.shipped, .int .i64 r.scrapped, .int .i64 r.sent]) (heap_new _ _) rfl) (fun u hu => rowC_one (p := (s, r)) hu) (by unfold maxLen; have := HOL2.out; omega) (by have := HOL2.out; omega) (by simp; have := hsz.out; omega) ?_; intro vb wb hownb hgrowb hlocb; obtain ⟨ba, bc, rfl⟩ := row_sl hownb; have hPb := HI.out.push (p := (s, r)) hsz.out hownb hgrowb; have HPb := Lib.hid hPb; clear hownb hgrowb hlocb hPb x0 x1 x2 x3 x4 x5 x6 x7 x8 x9 x10 x11 sc0; obtain ⟨fz, a, c, hcg⟩ := hfz.out wb HPb.out.2)
        go_end0
        refine ⟨⟨_, rfl⟩, _, hfin.out _ _ HPb.out.2 ?_⟩
        rw [← hzA.out]; exact HPb.out.1
end Go.Proofs.YtogphlnakdnchaaGreat

namespace Go.Proofs.YtogphlnakdnchaaGreat
open Go.RowKit Go.Maps
attribute [local go_sem] Oper.semAt_some
theorem itsOk_pos : ∀ {L : Its} {last : Str}, itsOk last L = true → ∀ p ∈ L, goodB p.1 = true ∧ 1 ≤ p.2 ∧ p.2 ≤ 1099511627776
  | [], _, _, p, hp => by cases hp
  | q :: r, last, h, p, hp => by
    rw [itsOk_cons] at h
    simp only [Bool.and_eq_true, decide_eq_true_eq, mayI_iff] at h
    rcases List.mem_cons.1 hp with rfl | hp
    · exact ⟨h.1.1.1.1, h.1.1.1.2, h.1.1.2.2⟩
    · exact itsOk_pos h.2 p hp
theorem mayL_pos {L : Its} (h : mayL L = true) : ∀ p ∈ L, 0 ≤ p.2 ∧ p.2 ≤ 1099511627776 := fun p hp => by
  unfold mayL at h
  rw [Bool.and_eq_true] at h
  have := itsOk_pos h.1 p hp
  omega
def DoJ (w : World) (n0 nb mb : Nat) (k : Int) (A : Stk) (L : Its) (j : Nat) (_ : Nat → Prop) (W : World) : Prop := ∃ B, DoI w W n0 nb mb k 0 B ∧ doFold k A L = doFold k B (L.drop j) ∧ B.length ≤ A.length + j
def DoX (w : World) (n0 nb mb : Nat) (k : Int) (A : Stk) (L : Its) (c : Code) (_ : Nat) (_ : Nat → Prop) (W : World) : Prop := c = .ret ∧ doFold k A L = none ∧ ∃ B, DoI w W n0 nb mb k 50 B
set_option maxRecDepth 100000 in
set_option maxHeartbeats 16000000 in
theorem sDo (w : World) (g : Nat) (TS : Nat → Prop) (A : Stk) (k : Int) (v : Value) (L : Its) (h : SA w g TS A) (hA : SOk A) (hv : Il w v L) :
    Calls Tryz.prog 31 #[.pointer (some ⟨g, 0, none⟩), .int .i64 k, v] w fun e w' => e = .returned (.int .i64 (doS A k L).1) ∧ ∃ TS', SA w' g TS' (doS A k L).2 ∧ Stp TS w w' TS' := by
  obtain ⟨n0, hn0⟩ : ∃ n0, w.heap.size = n0 := ⟨_, rfl⟩
  have HS := Lib.hid hn0
  have HL := Lib.hid hv
  have hob := hv.lt
  have HOB := Lib.hid hob
  have hokl : Hid (∀ (j : Nat) (p : Str × Int), L[j]? = some p → okS p.1) := Lib.hid (fun j p hp => by obtain ⟨_, _, _, _, hx⟩ := hv; exact (hx j p hp).1)
  obtain ⟨a, c, rfl⟩ := hv.sl
  obtain ⟨N, hN⟩ : ∃ N, L.length = N := ⟨_, rfl⟩
  have HN := Lib.hid hN
  rw [hN] at HL HOB ⊢
  have HSA := Lib.hid h
  have HAA := Lib.hid hA
  have HGL : Hid (g < w.heap.size) := Lib.hid (h.lt g h.own)
  obtain ⟨m, hc, hm, hTm⟩ := h.cell
  have HC := Lib.hid hc; have HM := Lib.hid hm
  have hmd := Lib.hid (fun W (hW : W.cell? ⟨g, 0, none⟩ = some (.map (some m))) => smade W g m hW)
  clear hv hob hN h hm hTm hA
  refine (callsIn_wide (n := 0)).1 ?_
  refine callsIn_of_wp_marks Tryz.func31 rfl trivial ?_ rfl
  simp only [Tryz.ntmps31, List.size_toArray, List.length_cons, List.length_nil, Nat.reduceAdd, Nat.reduceSub, Array.replicate_succ, Array.replicate_zero, List.push_toArray, List.append_toArray, List.nil_append, List.cons_append]
  have hfn : ∀ f, Fence.wide.fn f := fun _ => trivial
  have hdp : Fence.wide.depth.isSome = false := rfl
  obtain ⟨W0, hW0⟩ : ∃ W0, (w.alloc (.cells #[.int .i64 k] 3)).alloc (.cells #[.int .i64 0] 30) = W0 := ⟨_, rfl⟩
  have hF0 : Fr (fun _ => False) w W0 := by rw [← hW0]; exact ((Fr.refl _ w).alloc _).alloc _
  have hs0 : W0.heap.size = n0 + 2 := by rw [← hW0]; simp; omega
  have hk0 : W0.heap[n0]? = some (.cells #[.int .i64 k] 3) := by rw [← hW0]; exact heap_keep (heap_at hn0.symm _) _
  have he0 : W0.heap[n0 + 1]? = some (.cells #[.int .i64 0] 30) := by rw [← hW0]; exact heap_at (by simp; omega) _
  have HF0 := Lib.hid hF0; have HS0 := Lib.hid hs0; have HK0 := Lib.hid hk0; have HE0 := Lib.hid he0; have HW0 := Lib.hid hW0
  have hcg0 : W0.cell? ⟨g, 0, none⟩ = some (.map (some m)) := hF0.cell hc (fun h => h)
  have hckk := cell_obj hk0 0 (.int .i64 k) rfl
  have hcee := cell_obj he0 0 (.int .i64 0) rfl
  have hfee := obj_frozen he0 0
  clear hF0 hs0 hk0 he0 hc
  have hrefuse : ∀ W x, Fr (fun _ => False) w W → ∃ TS', SA (W.setCell ⟨n0 + 1, 0, none⟩ (.int .i64 x)) g TS' A ∧ Stp TS w (W.setCell ⟨n0 + 1, 0, none⟩ (.int .i64 x)) TS' := fun W x hf => by
    have hF' : Fr (fun _ => False) w (W.setCell ⟨n0 + 1, 0, none⟩ (.int .i64 x)) := hf.setCell (p := ⟨n0 + 1, 0, none⟩) (fun h => by have := HS.out; have h : n0 + 1 < w.heap.size := h; omega) _
    exact ⟨TS, HSA.out.fr hF' (fun _ _ h => h), Stp.refl hF'⟩
  have HRF := Lib.hid hrefuse
  have hmdc := Lib.hid (fun W (hW : W.cell? ⟨g, 0, none⟩ = some (.map (some m))) => (callsIn_wide (n := 0)).2 (hmd.out W hW))
  clear hrefuse hmd
  by_cases hkr : k < 1 ∨ 11 < k
  · have hd : Hid (doS A k L = (1, A)) := Lib.hid (by unfold doS; rw [if_pos hkr])
    have hres := cell_obj (obj_set HE0.out 0 (.int .i64 1)) 0 (.int .i64 1) rfl
    rcases (by omega : k < 1 ∨ (1 ≤ k ∧ 11 < k)) with h1 | ⟨h1, h2⟩
    all_goals
      gi_wp2_with (gi_at_call 69; refine (hmdc.out _ hcg0).mono ?_; rintro e w1 ⟨rfl, rfl⟩)
      refine ⟨.int .i64 1, by simp [results, Tryz.results31, go_sem, hres], ?_, ?_⟩
      · rw [hd.out]
      · rw [hd.out]; exact HRF.out _ _ HF0.out
  · have hk1 : 1 ≤ k := by omega
    have hk2 : k ≤ 11 := by omega
    have hL0 := HL.out.fr HF0.out (fun b hb => hb.elim)
    have hIM := Lib.hid (iMay W0 (.slice a N c) L hL0)
    clear hL0
    cases hml : mayL L with
    | false =>
      have hd : Hid (doS A k L = (60, A)) := Lib.hid (by unfold doS; rw [if_neg hkr, if_pos hml])
      rw [hml] at hIM
      clear hkr hml
      gi_wp2_with (first
        | (gi_at_call 69; refine (hmdc.out _ hcg0).mono ?_; rintro e w1 ⟨rfl, rfl⟩)
        | (gi_at_call 28; refine (callsIn_wide.2 hIM.out).mono ?_; rintro e w2 ⟨rfl, hf2⟩; have hE2 := Lib.hid (hf2.at_ HE0.out (fun h => h)); have ce2 := cell_obj hE2.out 0 (.int .i64 0) rfl; have fe2 := obj_frozen hE2.out 0; have HF2 := Lib.hid (HF0.out.trans hf2); clear hf2))
      have hres := cell_obj (obj_set hE2.out 0 (.int .i64 60)) 0 (.int .i64 60) rfl
      refine ⟨.int .i64 60, by simp [results, Tryz.results31, go_sem, hres], ?_, ?_⟩
      · rw [hd.out]
      · rw [hd.out]; exact HRF.out _ _ HF2.out
    | true =>
      rw [hml] at hIM
      have hpos : Hid (∀ p ∈ L, 0 ≤ p.2 ∧ p.2 ≤ 1099511627776) := Lib.hid (mayL_pos hml)
      have h16 : Hid (L.length ≤ 16) := Lib.hid (by unfold mayL at hml; simp at hml; exact hml.2)
      have hSM : Hid (∀ W, Fr (fun _ => False) w W → Calls Tryz.prog 72 #[.pointer (some ⟨g, 0, none⟩), .int .i64 k, .slice a N c] W fun e w' => e = .returned (.int .i64 (doMay A k L)) ∧ Fr (fun _ => False) W w') := Lib.hid (fun W hf =>
        sMay W g TS A k (.slice a N c) L (HSA.out.fr hf (fun _ _ h => h)) HAA.out (HL.out.fr hf (fun b hb => hb.elim)))
      obtain ⟨x, hx⟩ : ∃ x, doMay A k L = x := ⟨_, rfl⟩
      rw [hx] at hSM
      by_cases hx0 : x = 0
      · subst hx0
        have hd : Hid (doS A k L = (match doFold k A L with | none => (50, A) | some B => if 64 < B.length then (2, A) else (0, B))) := Lib.hid (by
          unfold doS
          rw [if_neg hkr, if_neg (by rw [hml]; decide), if_neg (by rw [hx]; simp)]
          cases doFold k A L <;> rfl)
        clear hkr hml hx
        gi_wp2_with (first
          | (gi_at_call 69; refine (hmdc.out _ hcg0).mono ?_; rintro e w1 ⟨rfl, rfl⟩)
          | (gi_at_call 28; refine (callsIn_wide.2 hIM.out).mono ?_; rintro e w2 ⟨rfl, hf2⟩; have HF2 := Lib.hid (HF0.out.trans hf2); have hck2 := cell_obj (hf2.at_ HK0.out (fun h => h)) 0 (.int .i64 k) rfl; have HX2 := Lib.hid hf2; clear hf2)
          | (gi_at_call 72; refine (callsIn_wide.2 (hSM.out _ HF2.out)).mono ?_; rintro e w3 ⟨rfl, hf3⟩; have HF3 := Lib.hid (HF2.out.trans hf3); have hcg3 := HF3.out.cell HC.out (fun h => h); have HX3 := Lib.hid (HX2.out.trans hf3); clear hf3))
        refine (callsIn_wide.2 (sClone w3 m A (HF3.out.mp HM.out (fun h => h)))).mono ?_
        rintro e w4 ⟨rfl, hm4, hB4⟩
        obtain ⟨mb, hmb⟩ : ∃ mb, w3.heap.size = mb := ⟨_, rfl⟩
        rw [hmb] at hm4
        have hF4 := HF3.out.trans (Fr.below hB4)
        have hX4 := HX3.out.trans (Fr.below (S := fun _ => False) hB4)
        have hsz3 := HX3.out.size
        have hsz4 := hB4.size
        have hs4 : mb < w4.heap.size := hm4.lt
        rw [HS0.out, hmb] at hsz3
        rw [hmb] at hsz4
        have hI4 : DoI w ((w4.alloc (.cells #[.map (some mb)] 100)).alloc (.cells #[.slice a N c] 27)) n0 w4.heap.size mb k 0 A :=
          ⟨heap_keep (heap_keep (hX4.at_ HK0.out (fun h => h)) _) _, heap_keep (heap_keep (hX4.at_ HE0.out (fun h => h)) _) _, heap_keep (heap_new _ _) _, (hm4.alloc _).alloc _, fun p hp => (HAA.out.row p hp).b, ((hF4.mono (fun _ _ h => h.elim)).alloc _).alloc _, by omega, by omega, by omega⟩
        have hBx : Boxed ((w4.alloc (.cells #[.map (some mb)] 100)).alloc (.cells #[.slice a N c] 27)) (w4.heap.size + 1) 27 (.slice a N c) := heap_at (by simp) _
        have HI4 := Lib.hid hI4; have HBX := Lib.hid hBx
        rw [hmb]
        clear hmb hm4 hB4 hF4 hX4 hI4 hBx hck2 hcg3 HX2 HX3 HF2 HF3 hIM hSM
        gi_wp2_with (gi_at_call 58; refine (callsIn_wide.2 (iAll _ _ _ _)).mono ?_; rintro e w5 ⟨rfl, rfl⟩)
        obtain ⟨nb, hnb⟩ : ∃ nb, w4.heap.size = nb := ⟨_, rfl⟩
        obtain ⟨W5, hW5⟩ : ∃ W5, (w4.alloc (.cells #[.map (some mb)] 100)).alloc (.cells #[.slice a N c] 27) = W5 := ⟨_, rfl⟩
        have hs5 : W5.heap.size = nb + 2 := by rw [← hW5]; simp; omega
        rw [hW5, hnb] at HI4 HBX
        rw [hW5]
        simp only [hnb]
        rw [hnb] at hs4 hsz4
        have hL5 := HL.out.fr HI4.out.fr (fun b hb => by omega)
        clear hW5 hnb
        refine rangeX (w0 := W5) (X := L) (S := fun b => b = n0 + 1 ∨ b = mb) rfl (enters_of Tryz.func95 (by kernel_rfl) rfl)
          (iAll1 _ W5 _ _ L HBX.out hL5 (by omega) (fun hl b hb e => by have := HOB.out hl b e; omega)) (Below.refl _ _) (fun b hb => by omega) (fun _ => rfl)
          (DoJ w n0 nb mb k A L) (DoX w n0 nb mb k A L)
          (fun k C W W' hs hf => by obtain ⟨B, h1, h2⟩ := hs; exact ⟨B, h1.fa hf (by omega), h2⟩) (fun c k C W W' hs hf => by obtain ⟨e, e2, B, h1⟩ := hs; exact ⟨e, e2, B, h1.fa hf (by omega)⟩)
          ⟨A, HI4.out, rfl, by omega⟩ ?round ?done ?stop
        case round =>
          rintro lp j x C W hx hlp hi hr
          dsimp only [encIt]
          gi_wp2
          refine Took.mk (Fr.refl _ _) hi ?_
          rintro Wb ⟨B, hI, hrest, hBl⟩ hrb hf hsz hsw hCC _
          have hdr : L.drop j = x :: L.drop (j + 1) := List.drop_eq_getElem?_toList_append |>.trans (by rw [hx]; rfl)
          rw [hdr, doFold_cons] at hrest
          have hok := hokl.out j x hx
          have hpos := hpos.out x (List.mem_of_getElem? hx)
          obtain ⟨gd, n⟩ := x
          dsimp only at hok hrest hpos ⊢
          have cnx := cell_obj hI.nx 0 (.map (some mb)) rfl
          have hlk := mp_row hI.map hok
          have hRb := rowAt_b hI.rows gd
          obtain ⟨R, hRR⟩ : ∃ R, rowAt B gd = R := ⟨_, rfl⟩
          rw [hRR] at hlk hRb hrest
          have hadd := SR.adds (k := k) hRb hpos
          obtain ⟨ad1, ad2, ad3⟩ := hadd
          unfold SR.enc SR.cs at hlk
          have hnn : IntKind.i64.wrap (-n) = -n := by rw [IntKind.wrap_i64]; omega
          have hIa := hI.keep ((Fr.refl (fun _ => False) Wb).alloc (.cells R.cs 121))
          have hra : RowAt (Wb.alloc (.cells R.cs 121)) Wb.heap.size R := heap_new _ _
          have hcka := cell_obj hIa.k 0 (.int .i64 k) rfl
          unfold SR.cs at hIa hra hcka
          obtain ⟨rb, hrb⟩ : ∃ rb, Wb.heap.size = rb := ⟨_, rfl⟩
          have HI := Lib.hid hI; have HIA := Lib.hid hIa; have HRA := Lib.hid hra; have HREST := Lib.hid hrest; have HBL := Lib.hid hBl; have HRB := Lib.hid hrb; have AD1 := Lib.hid ad1; have AD2 := Lib.hid ad2; have AD3 := Lib.hid ad3
          have hokh := Lib.hid hok; have HXX := Lib.hid hx
          clear hi hr hf hrb hdr hrest hok hI hIa hra hBl ad1 ad2 ad3 hRb hRR hx
          obtain ⟨⟨rf, rt, ro⟩, hR3⟩ : ∃ R, roadF k = R := ⟨_, rfl⟩
          have hroad := Lib.hid (fun W b => sRoad W b k)
          have hmv : Hid (R.move k n = ((R.add rf (-n)).add rt n).add ro n) := Lib.hid (by unfold SR.move; rw [hR3])
          rw [hR3] at AD1 AD2 AD3 hroad
          dsimp only at AD1 AD2 AD3 hroad
          clear hR3 hsz hsw hCC hlp hpos
          gi_wp2_with (gi_at_call 74; refine (callsIn_wide.2 (hroad.out _ _)).mono ?_; rintro e w6 ⟨rfl, q, rfl⟩)
          refine (callsIn_wide.2 (sAdd _ _ R rf (-n) (by exact HRA.out) AD1.out)).mono ?_
          rintro e w7 ⟨⟨v7, rfl⟩, hr7, hf7⟩
          have HR7 := Lib.hid hr7
          have HF7 := Lib.hid ((((Fr.refl (fun b => b = Wb.heap.size) Wb).alloc _).drewN q).trans' hf7 (fun b _ e => e))
          clear hr7 hf7 hcka cnx hlk
          gi_wp2_with fail
          refine (callsIn_wide.2 (sAdd w7 _ _ rt n HR7.out AD2.out)).mono ?_
          rintro e w8 ⟨⟨v8, rfl⟩, hr8, hf8⟩
          have HR8 := Lib.hid hr8
          have HF8 := Lib.hid (HF7.out.trans' hf8 (fun b _ e => e))
          clear hr8 hf8
          gi_wp2_with fail
          refine (callsIn_wide.2 (sAdd w8 _ _ ro n HR8.out AD3.out)).mono ?_
          rintro e w9 ⟨⟨v9, rfl⟩, hr9, hf9⟩
          rw [← hmv.out] at hr9
          have HF9 := Lib.hid (HF8.out.trans' hf9 (fun b _ e => e))
          obtain ⟨M, hM⟩ : ∃ M, R.move k n = M := ⟨_, rfl⟩
          rw [hM] at hr9 HREST
          have HR9 := Lib.hid hr9
          clear hr9 hf9 hM hmv HR7 HR8 HF7 HF8
          gi_wp2_with fail
          refine (callsIn_wide.2 (sRight w9 _ M HR9.out)).mono ?_
          rintro e w10 ⟨rfl, hf10⟩
          have HF10 := Lib.hid (HF9.out.trans' hf10 (fun b _ e => e.elim))
          have hr10 := hf10.at_ HR9.out (fun h => h)
          have hI10 := HI.out.side HF10.out (fun b e => by omega)
          have ce10 := cell_obj hI10.e 0 (.int .i64 0) rfl
          have fe10 := obj_frozen hI10.e 0
          have HI10 := Lib.hid hI10
          have hn' := hI10.hn
          cases hMr : M.right with
          | false =>
            have hno : Hid (doFold k A L = none) := Lib.hid (by rw [HREST.out, if_neg (by rw [hMr]; decide)])
            clear hf10 hr10 hI10 hMr
            gi_wp2_with fail
            exact ⟨((HF10.out.mono (S' := fun b => b = n0 + 1 ∨ b = Wb.heap.size) (fun _ _ e => .inr e)).setCell (p := ⟨n0 + 1, 0, none⟩) (fun _ => .inl rfl) _).mono (fun b hb e => e.elim (fun e => .inl (.inl e)) (fun e => by omega)), rfl, hno.out, B, HI10.out.put 50⟩
          | true =>
            have hyes : Hid (doFold k A L = doFold k (putS ktS.lt B gd M) (L.drop (j + 1))) := Lib.hid (by rw [HREST.out, if_pos hMr])
            have hMb := Lib.hid (right_b hMr)
            have e0 := cell_obj hr10 0 (.int .i64 M.free) rfl
            have e1 := cell_obj hr10 1 (.int .i64 M.held) rfl
            have e2 := cell_obj hr10 2 (.int .i64 M.picked) rfl
            have e3 := cell_obj hr10 3 (.int .i64 M.aside) rfl
            have e4 := cell_obj hr10 4 (.int .i64 M.received) rfl
            have e5 := cell_obj hr10 5 (.int .i64 M.returned) rfl
            have e6 := cell_obj hr10 6 (.int .i64 M.counted) rfl
            have e7 := cell_obj hr10 7 (.int .i64 M.came) rfl
            have e8 := cell_obj hr10 8 (.int .i64 M.shipped) rfl
            have e9 := cell_obj hr10 9 (.int .i64 M.scrapped) rfl
            have e10 := cell_obj hr10 10 (.int .i64 M.sent) rfl
            have cnx := cell_obj hI10.nx 0 (.map (some mb)) rfl
            obtain ⟨w11, hst, hm11, ht11⟩ := hI10.map.store kS Tryz.underlying100 (by have := HBL.out; have := HAA.out.len; have := (List.getElem?_eq_some_iff.1 HXX.out).1; have := h16.out; omega) hokh.out M
            have hst : (Instr.mapUpdate 100 (.map (some mb)) (vS gd) (.agg #[.int .i64 M.free, .int .i64 M.held, .int .i64 M.picked, .int .i64 M.aside, .int .i64 M.received, .int .i64 M.returned, .int .i64 M.counted, .int .i64 M.came, .int .i64 M.shipped, .int .i64 M.scrapped, .int .i64 M.sent])).run Tryz.prog w10 = .ok () w11 := hst
            have HI11 := Lib.hid (hI10.turn ht11 hm11 hMb.out)
            have HT11 := Lib.hid ht11
            clear hf10 hr10 hI10 hMr hm11 ht11 ce10 fe10
            gi_wp2_with fail
            refine ⟨(HF10.out.mono (fun b hb e => by omega)).trans' (Fr.turned (S := fun b => b = mb) HT11.out rfl) (fun b _ e => .inl (.inr e)), _, HI11.out, hyes.out, ?_⟩
            have := putK_len ktS.lt B gd M
            have := HBL.out
            omega
        case stop =>
          rintro D c j C W hD hk ⟨rfl, hno, B, hI⟩ hr hK
          have hc5 := cell_obj (Fa.cells (frPut (B := n0) (.deferred none) (by omega) hK rfl) hI.e) 0 (.int .i64 50) rfl
          have hd2 : Hid (doS A k L = (50, A)) := Lib.hid (by rw [hd.out, hno])
          have hF : Hid (Fr (fun _ => False) w (W.putObj D (.deferred none))) := Lib.hid ((hI.fr.putObj (l := D) (fun _ => by omega) _).mono (fun b hb e => by omega))
          clear hI hr hno
          gi_wp2_with fail
          refine ⟨by simp, .inl ⟨_, _, rfl, run_takeDeferred hK, ?_⟩⟩
          refine ⟨.int .i64 50, by simp [results, Tryz.results31, go_sem, hc5], ?_, ?_⟩
          · rw [hd2.out]
          · rw [hd2.out]; exact ⟨TS, HSA.out.fr hF.out (fun _ _ h => h), Stp.refl hF.out⟩
        case done =>
          rintro D C W hD ⟨B, hI, hrest, hBl⟩ hr hK
          have hdd : doFold k A L = some B := by rw [hrest, List.drop_length]; rfl
          have hlen := hI.map.len Tryz.underlying100 3
          have cnx := cell_obj hI.nx 0 (.map (some mb)) rfl
          have hg0 : w.heap[g]? = some (.cells #[.map (some m)] 102) := by
            obtain ⟨⟨m', e1, e2, e3⟩, -, -⟩ := HSA.out
            have := cell_obj e1 0 _ rfl
            rw [HC.out] at this
            cases this
            exact e1
          have hgW := hI.fr.at_ hg0 (by have := HGL.out; omega)
          have hbl2 : (B.length : Int) ≤ 80 := by have := HAA.out.len; have := h16.out; omega
          obtain ⟨bl, hbl⟩ : ∃ bl, B.length = bl := ⟨_, rfl⟩
          rw [hbl] at hlen hbl2
          have HI := Lib.hid hI; have HGW := Lib.hid hgW
          by_cases h64 : (64 : Int) < bl
          · have hd2 : Hid (doS A k L = (2, A)) := Lib.hid (by rw [hd.out, hdd]; show (if 64 < B.length then _ else _) = _; rw [if_pos (by omega)])
            have ce := cell_obj hI.e 0 (.int .i64 0) rfl
            have fe := obj_frozen hI.e 0
            have hKs := (Below.heap_setCell W ⟨n0 + 1, 0, none⟩ (.int .i64 2) D (by show D ≠ n0 + 1; omega)).trans hK
            have hc5 := cell_obj (Fa.cells (frPut (B := n0) (.deferred none) (by omega) hKs rfl) (hI.put 2).e) 0 (.int .i64 2) rfl
            have hF : Hid (Fr (fun _ => False) w ((W.setCell ⟨n0 + 1, 0, none⟩ (.int .i64 2)).putObj D (.deferred none))) := Lib.hid (((hI.put 2).fr.putObj (l := D) (fun _ => by omega) _).mono (fun b hb e => by omega))
            clear hI hr hrest hdd hBl hgW hK
            gi_wp2_with fail
            refine ⟨by simp, .inl ⟨_, _, rfl, run_takeDeferred hKs, ?_⟩⟩
            refine ⟨.int .i64 2, by simp [results, Tryz.results31, go_sem, hc5], ?_, ?_⟩
            · rw [hd2.out]
            · rw [hd2.out]; exact ⟨TS, HSA.out.fr hF.out (fun _ _ h => h), Stp.refl hF.out⟩
          · have hd2 : Hid (doS A k L = (0, B)) := Lib.hid (by rw [hd.out, hdd]; show (if 64 < B.length then _ else _) = _; rw [if_neg (by omega)])
            have cgW := cell_obj hgW 0 (.map (some m)) rfl
            have fgW := obj_frozen hgW 0
            have hgne : g ≠ n0 + 1 := by have := HGL.out; omega
            have hFg : Fr (fun b => b = g) W (W.setCell ⟨g, 0, none⟩ (.map (some mb))) := (Fr.refl (fun b => b = g) W).setCell (p := ⟨g, 0, none⟩) (fun _ => rfl) _
            have hE1 := hFg.at_ hI.e (fun e => hgne e.symm)
            have ce := cell_obj hE1 0 (.int .i64 0) rfl
            have fe := obj_frozen hE1 0
            obtain ⟨V, hV⟩ : ∃ V, (W.setCell ⟨g, 0, none⟩ (.map (some mb))).setCell ⟨n0 + 1, 0, none⟩ (.int .i64 0) = V := ⟨_, rfl⟩
            have hFV : Fr (fun b => b = g ∨ b = n0 + 1) W V := by
              rw [← hV]
              exact (hFg.mono (fun _ _ e => .inl e)).setCell (p := ⟨n0 + 1, 0, none⟩) (fun _ => .inr rfl) _
            have hEV : V.heap[n0 + 1]? = some (.cells #[.int .i64 0] 30) := by rw [← hV]; exact obj_set hE1 0 _
            have hGV : V.heap[g]? = some (.cells #[.map (some mb)] 102) := by
              rw [← hV]
              exact ((Fr.refl (fun b => b = n0 + 1) _).setCell (p := ⟨n0 + 1, 0, none⟩) (fun _ => rfl) _).at_ (obj_set hgW 0 _) hgne
            have hKs : V.heap[D]? = some (.deferred (some [])) := hFV.at_ hK (by have := HGL.out; omega)
            have hn' := hI.hn
            have hmV := hFV.mp hI.map (by have := HGL.out; omega)
            have hc5 := cell_obj (Fa.cells (frPut (B := n0) (.deferred none) (by omega) hKs rfl) hEV) 0 (.int .i64 0) rfl
            have hP := frPut (B := n0) (.deferred none) (show n0 ≤ D by omega) hKs rfl
            have hfin : SA (V.putObj D (.deferred none)) g (fun b => TS b ∨ b = mb) B ∧ Stp TS w (V.putObj D (.deferred none)) (fun b => TS b ∨ b = mb) := by
              have hFt : Fr (fun b => b = g ∨ n0 ≤ b) w (V.putObj D (.deferred none)) :=
                ((hI.fr.mono (S' := fun b => b = g ∨ n0 ≤ b) (fun b hb e => .inr e)).trans (hFV.mono (S' := fun b => b = g ∨ n0 ≤ b) (fun b _ e => e.imp id (fun e => by omega)))).trans (hP.mono (S' := fun b => b = g ∨ n0 ≤ b) (fun b _ e => .inr e.1))
              have hmlt := hI.map.lt
              have hsW := hFV.size
              refine ⟨⟨⟨mb, Fa.cells hP hGV, Fa.mp hP hmV, .inr rfl⟩, .inl HSA.out.own, fun b hb => ?_⟩, hFt.mono (fun b hb e => e.elim (fun e => e ▸ HSA.out.own) (fun e => by omega)), fun b hb => hb.elim .inl (fun e => .inr (by omega))⟩
              have := hFt.size
              rcases hb with hb | rfl
              · have := HSA.out.lt b hb; omega
              · have := hP.size; omega
            have HFIN := Lib.hid hfin; have HKS := Lib.hid hKs
            clear hI hr hrest hdd hBl hgW hK hFg hE1 hFV hEV hGV hKs hmV hP hfin
            gi_wp2_with fail
            refine ⟨by simp, .inl ⟨_, _, rfl, run_takeDeferred HKS.out, ?_⟩⟩
            refine ⟨.int .i64 0, by simp [results, Tryz.results31, go_sem, hc5], ?_, ?_⟩
            · rw [hd2.out]
            · rw [hd2.out]; exact ⟨_, HFIN.out⟩
      · have hd : Hid (doS A k L = (x, A)) := Lib.hid (by
          unfold doS
          rw [if_neg hkr, if_neg (by rw [hml]; decide), if_pos (by rw [hx]; exact hx0), hx])
        have hxB : (x != 0) = true := by simp; exact hx0
        clear hkr hml hx hx0
        gi_wp2_with (first
          | (gi_at_call 69; refine (hmdc.out _ hcg0).mono ?_; rintro e w1 ⟨rfl, rfl⟩)
          | (gi_at_call 28; refine (callsIn_wide.2 hIM.out).mono ?_; rintro e w2 ⟨rfl, hf2⟩; have HF2 := Lib.hid (HF0.out.trans hf2); have hck2 := cell_obj (hf2.at_ HK0.out (fun h => h)) 0 (.int .i64 k) rfl; have HX2 := Lib.hid hf2; clear hf2)
          | (gi_at_call 72; refine (callsIn_wide.2 (hSM.out _ HF2.out)).mono ?_; rintro e w3 ⟨rfl, hf3⟩; have hE3 := Lib.hid ((HX2.out.trans hf3).at_ HE0.out (fun h => h)); have ce3 := cell_obj hE3.out 0 (.int .i64 0) rfl; have fe3 := obj_frozen hE3.out 0; have HF3 := Lib.hid (HF2.out.trans hf3); clear hf3))
        have hres := cell_obj (obj_set hE3.out 0 (.int .i64 x)) 0 (.int .i64 x) rfl
        refine ⟨.int .i64 x, by simp [results, Tryz.results31, go_sem, hres], ?_, ?_⟩
        · rw [hd.out]
        · rw [hd.out]; exact HRF.out _ _ HF3.out
end Go.Proofs.YtogphlnakdnchaaGreat

