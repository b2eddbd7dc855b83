/- Texts of this claim, joined: The document's cells (entrepotref01): First: what it reads is what cells.First reads: plainly; The document's cells (entrepotref01): First: the walk; What makers put and takers take, as states: plainly; The document's cells (entrepotref01): Taker: Num, Flag; Strings as keys of maps, and their order: plainly; cells: Maker.Text; cells: Taker.Text; The document's cells (entrepotref01): Taker.Text; stock: a good's numbers, what is done to them, and stocks as lists: plainly; count.May; Ranges over functions: an iterator's contract over a list that is known, and the loop's law; items: lists of goods: All, Good; items: May; A variable that a loop appends to: what the append leaves; items: rows of the call's own, as slices of items; items: Of, Total; Plain: a list of goods in which there are so many of one (setF); A law: it returns true, and leaves all that was there. What is common to all laws of this seat. -/
import Derived.Test.YtlniekobijcanaaGreatBinsUnpacksM1
import Derived.BigQuiet
import Derived.Sort.KeysCollected
import Derived.Sort.Walk0
import Derived.Lib.ConvBytes
import Derived.RangeFuncCalls
import Derived.RangeFuncLeaves
import Derived.OwnWalkIn
import Derived.TacticsInMore
import Derived.LoopNIn
import Derived.LoopIn
import Derived.RegionIn
import Derived.Laws.RangeAny
import Derived.Laws.Cover1
import Derived.Shelf.Abstract
import Derived.Maps.AppendAt
import Derived.Maps.OwnIn
import Derived.ProofKit
import Derived.OpenShut
import Derived.SizedLaws
import Derived.Below
namespace Go.Proofs.YtlniekobijcanaaGreat
open Go.RowKit Go.Maps
def nU (l : List Int) : Int := l.foldl (fun u c => u * 256 + c) 0
theorem nU_succ {l : List Int} {k : Nat} {x : Int} (h : l[k]? = some x) : nU (l.take (k + 1)) = nU (l.take k) * 256 + x := by
  unfold nU
  rw [List.take_add_one, h, List.foldl_append]; rfl
theorem pow256s (k : Nat) : ((256 ^ (k + 1) : Nat) : Int) = ((256 ^ k : Nat) : Int) * 256 := by rw [Nat.pow_succ]; simp
theorem nU_lt {l : List Int} (hb : ∀ x ∈ l, 0 ≤ x ∧ x < 256) : ∀ k, k ≤ l.length → 0 ≤ nU (l.take k) ∧ nU (l.take k) < ((256 ^ k : Nat) : Int)
  | 0, _ => by simp [nU]
  | k + 1, h => by
    have hk : l[k]? = some l[k] := List.getElem?_eq_getElem (by omega)
    have h1 := nU_lt hb k (by omega)
    have h2 := hb l[k] (List.getElem_mem _)
    rw [nU_succ hk, pow256s]
    omega
theorem dU_nU {l : List Int} (hb : ∀ x ∈ l, 0 ≤ x ∧ x < 256) (h8 : l.length ≤ 8) : ∀ k, k ≤ l.length → dU (l.take k) = nU (l.take k)
  | 0, _ => rfl
  | k + 1, h => by
    have hk : l[k]? = some l[k] := List.getElem?_eq_getElem (by omega)
    have h2 := hb l[k] (List.getElem_mem _)
    have h1 := nU_lt hb k (by omega)
    have hp : 256 ^ k ≤ 256 ^ 7 := Nat.pow_le_pow_right (by omega) (by omega)
    rw [dU_succ hk, nU_succ hk, dU_nU hb h8 k (by omega)]
    obtain ⟨u, hu⟩ : ∃ u : Nat, nU (l.take k) = u := ⟨(nU (l.take k)).toNat, by omega⟩
    obtain ⟨c, hc⟩ : ∃ c : Nat, l[k] = c := ⟨l[k].toNat, by omega⟩
    rw [hu] at h1 ⊢
    rw [hc] at h2 ⊢
    have := or_add u c (by omega) (by omega)
    unfold dStep
    rw [this]
    omega
/-- What the document's First gives. -/
def firstR (bs : List Int) : Int × Nat := match firstB bs with | some p => p | none => (0, 0)
theorem numB_hd0 {n : Int} (h : 0 ≤ n) (hn : n < 9223372036854775808) {x : Int} {l : List Int} (e : numB n = x :: l) : x < 128 ∨ (129 ≤ x ∧ x ≤ 136) := by
  by_cases hs : 0 ≤ n ∧ n < 128
  · unfold numB at e
    rw [if_pos hs] at e
    injection e with e1 _
    left; omega
  · rw [numB_big hs] at e
    injection e with e1 _
    have h8 := nSz_le (u := numU n) (by have := numU_lt (n := n) (by unfold okI; omega); omega)
    have hp : 0 < nSz (numU n) := by
      refine Nat.lt_of_le_of_ne (Nat.zero_le _) (fun e0 => ?_)
      have := nSz_lt (u := numU n) (by have := numU_lt (n := n) (by unfold okI; omega); omega)
      rw [← e0] at this
      unfold numU at this
      split at this <;> omega
    unfold numH at e1
    rw [if_neg (by omega)] at e1
    right; omega
theorem numB_hd1 {n : Int} (h : n < 0) (hn : -9223372036854775808 ≤ n) {x : Int} {l : List Int} (e : numB n = x :: l) : 144 ≤ x ∧ x ≤ 152 := by
  rw [numB_big (by omega)] at e
  injection e with e1 _
  have h8 := nSz_le (u := numU n) (by have := numU_lt (n := n) (by unfold okI; omega); omega)
  unfold numH at e1
  rw [if_pos h] at e1
  omega
/-- The heads that the document knows. -/
theorem firstB_out {hd : Int} {r : List Int} (h : 128 ≤ hd) (hr : ¬ (129 ≤ hd ∧ hd ≤ 136)) (hr2 : ¬ (144 ≤ hd ∧ hd ≤ 152)) : firstB (hd :: r) = none := by
  unfold firstB
  dsimp only
  rw [if_neg (by omega)]
  by_cases h8 : hd = 128
  · subst h8
    rw [if_neg (by simp [dSize])]
    have e : dN 128 (List.take (dSize 128).toNat r) = 0 := by
      rw [show (dSize 128).toNat = 0 by simp [dSize]]
      rw [List.take_zero]
      show wrap64 (bits .xor .u64 ((0 : Nat) : Int) 0) = 0
      rw [xorZero 0 (by omega)]; unfold wrap64; omega
    rw [e, if_neg (by simp [numB])]
  · rw [if_pos]
    left; unfold dSize; split <;> omega
theorem firstB_in {hd : Int} {r : List Int} {S : Nat} (h : (129 ≤ hd ∧ hd ≤ 136) ∨ (144 ≤ hd ∧ hd ≤ 152)) (hS : dSize hd = S) (hb : ∀ x ∈ r, 0 ≤ x ∧ x < 256) (hl : S ≤ r.length) :
    firstB (hd :: r) = if 9223372036854775808 ≤ nU (r.take S) then none else if numB (if 144 ≤ hd then -1 - nU (r.take S) else nU (r.take S)) = hd :: r.take S then some (if 144 ≤ hd then -1 - nU (r.take S) else nU (r.take S), 1 + S) else none := by
  have hS8 : S ≤ 8 := by unfold dSize at hS; split at hS <;> omega
  have hlt : (r.take S).length = S := by rw [List.length_take]; omega
  have hbt : ∀ x ∈ r.take S, 0 ≤ x ∧ x < 256 := fun x hx => hb x (List.mem_of_mem_take hx)
  have hd2 := dU_nU hbt (by omega) S (by omega)
  have hlt2 := nU_lt hbt S (by omega)
  rw [List.take_of_length_le (by omega)] at hd2 hlt2
  have hp : 256 ^ S ≤ 256 ^ 8 := Nat.pow_le_pow_right (by omega) hS8
  obtain ⟨U, hU⟩ : ∃ U : Nat, nU (r.take S) = U := ⟨(nU (r.take S)).toNat, by omega⟩
  rw [hU] at hd2 hlt2 ⊢
  have hUb : U < 18446744073709551616 := by omega
  unfold firstB
  dsimp only
  rw [if_neg (by omega), hS, Int.toNat_natCast, if_neg (by omega)]
  have hdn : dN hd (r.take S) = if 144 ≤ hd then wrap64 ((18446744073709551615 - U : Nat) : Int) else wrap64 (U : Int) := by
    unfold dN
    rw [hd2]
    unfold dTurn
    split
    · rw [xorOnes' _ hUb]
    · rw [xorZero _ hUb]
  rw [hdn]
  by_cases hbig : 9223372036854775808 ≤ (U : Int)
  · rw [if_pos hbig, if_neg]
    intro e
    by_cases hg : 144 ≤ hd
    · rw [if_pos hg] at e
      have h2 := numB_hd0 (by unfold wrap64; omega) (by unfold wrap64; omega) e
      omega
    · rw [if_neg hg] at e
      have h2 := numB_hd1 (by unfold wrap64; omega) (by unfold wrap64; omega) e
      omega
  · rw [if_neg hbig]
    by_cases hg : 144 ≤ hd
    · simp only [if_pos hg]
      rw [show wrap64 ((18446744073709551615 - U : Nat) : Int) = -1 - (U : Int) by unfold wrap64; omega]
    · simp only [if_neg hg]
      rw [show wrap64 (U : Int) = (U : Int) by unfold wrap64; omega]
theorem firstB_short {hd : Int} {r : List Int} {S : Nat} (h : 128 ≤ hd) (hS : dSize hd = S) (hl : r.length < S) : firstB (hd :: r) = none := by
  unfold firstB
  dsimp only
  rw [if_neg (by omega), if_pos]
  right; omega
theorem firstR_none {bs : List Int} (h : firstB bs = none) : firstR bs = (0, 0) := by unfold firstR; rw [h]
theorem firstR_some {bs : List Int} {p : Int × Nat} (h : firstB bs = some p) : firstR bs = p := by unfold firstR; rw [h]
end Go.Proofs.YtlniekobijcanaaGreat
namespace Go.Proofs.YtlniekobijcanaaGreat
open Go.RowKit Go.Maps
def firstW (p : Int × Nat) : Value := .tuple #[.int .i64 p.1, .int .i64 p.2]
set_option maxRecDepth 100000 in
set_option maxHeartbeats 4000000 in
theorem rFirst (w : World) (v : Value) (bs : List Int) (h : Bs w v bs) (hcap : ∀ a n c, v = .slice a n c → n ≤ c) : Calls Tryz.prog 110 #[v] w fun e w' => e = .returned (firstW (firstR bs)) ∧ Below w.heap.size w w' := by
  obtain ⟨hlen, a, c, rfl, hx⟩ := id h
  cases bs with
  | nil =>
    clear h hx
    rw [firstR_none rfl]
    unfold firstW
    dsimp only
    go_enter Tryz.func110, Tryz.ntmps110
    go_wp2
    go_ret2
    exact ⟨rfl, Below.refl _ _⟩
  | cons hd r =>
    obtain ⟨h0, h1, ad, rfl, hc⟩ := hx 0 hd rfl
    have hc0 : w.cell? ad = some (.int .u8 hd) := by have := hc; unfold Addr.add at this; simpa using this
    obtain ⟨n, hn⟩ : ∃ n, r.length = n := ⟨_, rfl⟩
    have HN := Lib.hid hn
    have hl : (hd :: r).length = n + 1 := by rw [List.length_cons, hn]
    have hcn : n + 1 ≤ c := by rw [← hl]; exact hcap _ _ _ (by rw [hl])
    have hbyte : ∀ x ∈ r, 0 ≤ x ∧ x < 256 := fun x hxr => by
      obtain ⟨i, hi, rfl⟩ := List.getElem_of_mem hxr
      obtain ⟨z0, z1, _⟩ := hx (i + 1) r[i] (by simp)
      exact ⟨z0, z1⟩
    have hcell : ∀ (i : Nat) (x : Int), r[i]? = some x → w.cell? (ad.add (1 + i)) = some (.int .u8 x) := fun i x hi => by
      obtain ⟨_, _, ad', e, hc⟩ := hx (i + 1) x (by simpa using hi)
      cases e
      rw [Nat.add_comm]; exact hc
    have HB := Lib.hid hbyte; have HC := Lib.hid hcell; have HH := Lib.hid h
    rw [hl] at hlen ⊢
    have HL := Lib.hid hl
    clear hx h hl hcell hbyte hn hcap hc
    by_cases hs : hd < 128
    · have e : firstR (hd :: r) = (hd, 1) := firstR_some (by simp [firstB, hs])
      rw [e]
      unfold firstW
      dsimp only
      clear e
      go_enter Tryz.func110, Tryz.ntmps110
      go_wp2
      go_ret2
      exact ⟨rfl, Below.refl _ _⟩
    · by_cases ho : ¬ (129 ≤ hd ∧ hd ≤ 136) ∧ ¬ (144 ≤ hd ∧ hd ≤ 152)
      · rw [firstR_none (firstB_out (r := r) (by omega) ho.1 ho.2)]
        unfold firstW
        dsimp only
        have ho2 : hd = 128 ∨ (136 < hd ∧ hd < 144) ∨ 152 < hd := by omega
        clear ho
        rcases ho2 with rfl | ⟨h3, h4⟩ | h3
        all_goals
          go_enter Tryz.func110, Tryz.ntmps110
          go_wp2
          go_ret2
          exact ⟨rfl, Below.refl _ _⟩
      · have ho2 : (129 ≤ hd ∧ hd ≤ 136) ∨ (144 ≤ hd ∧ hd ≤ 152) := by omega
        clear ho
        obtain ⟨S, hS⟩ : ∃ S : Nat, dSize hd = S := ⟨(dSize hd).toNat, by unfold dSize; split <;> omega⟩
        by_cases hsh : n < S
        · rw [firstR_none (firstB_short (r := r) (by omega) hS (by rw [HN.out]; exact hsh))]
          unfold firstW
          dsimp only
          rcases ho2 with ⟨h3, h4⟩ | ⟨h3, h4⟩
          · have hd1 : (n : Int) + 1 < 1 + (hd - 128) := by unfold dSize at hS; split at hS <;> omega
            clear hS hsh
            go_enter Tryz.func110, Tryz.ntmps110
            go_wp2
            go_ret2
            exact ⟨rfl, Below.refl _ _⟩
          · have hd1 : (n : Int) + 1 < 1 + (hd - 144) := by unfold dSize at hS; split at hS <;> omega
            clear hS hsh
            go_enter Tryz.func110, Tryz.ntmps110
            go_wp2
            go_ret2
            exact ⟨rfl, Below.refl _ _⟩
        · rcases ho2 with ⟨h3, h4⟩ | ⟨h3, h4⟩
          · have hS1 : hd - 128 = (S : Int) := by unfold dSize at hS; split at hS <;> omega
            have hS8 : S ≤ 8 := by omega
            have hfb := firstB_in (r := r) (.inl ⟨h3, h4⟩) hS HB.out (by rw [HN.out]; omega)
            obtain ⟨U, hU⟩ : ∃ U, nU (r.take S) = U := ⟨_, rfl⟩
            rw [hU] at hfb
            have hcc : ¬ 144 ≤ hd := by omega
            simp only [if_neg hcc] at hfb
            obtain ⟨hU0, hU1⟩ := nU_lt HB.out S (by rw [HN.out]; omega)
            have hp : 256 ^ S ≤ 256 ^ 8 := Nat.pow_le_pow_right (by omega) hS8
            rw [hU] at hU0 hU1
            have hU2 : U < 18446744073709551616 := by omega
            obtain ⟨p, hp2⟩ : ∃ p, firstR (hd :: r) = p := ⟨_, rfl⟩
            rw [hp2]
            have HP := Lib.hid hp2
            have HU := Lib.hid hU; have HFB := Lib.hid hfb
            have hS2 : 1 + (hd - 128) ≤ (n : Int) + 1 := by omega
            have HS1 := Lib.hid hS1
            have hS3 : (hd - 128) ≤ 8 := by omega
            clear hp hU1 hU hfb hS hS1 hp2 hcc
            go_enter Tryz.func110, Tryz.ntmps110
            go_wp2_with fail
            go_loopw [6, 7] (fun u i wr => ∃ k : Nat, k ≤ S ∧ u = .int .u64 (nU (r.take k)) ∧ i = .int .i64 k ∧ wr = w) (fun _ i _ => S - (intOf i).toNat)
            case atStart => exact ⟨0, by omega, rfl, rfl, rfl⟩
            case round =>
              obtain ⟨k, hk, rfl, rfl, rfl⟩ := hrel
              by_cases hkm : k < S
              · obtain ⟨x, hx⟩ : ∃ x, r[k]? = some x := ⟨r[k]'(by have := HN.out; omega), List.getElem?_eq_getElem _⟩
                have hcx := HC.out k x hx
                have hcx : wr.cell? ⟨ad.block, ad.off + 1 + k, none⟩ = some (.int .u8 x) := by
                  rw [← hcx]
                  unfold Addr.add
                  rw [if_neg (by omega)]
                  congr 2; omega
                obtain ⟨x0, x1⟩ := HB.out x (List.mem_of_getElem? hx)
                have hkm2 : (k : Int) < hd - 128 := by rw [HS1.out]; omega
                obtain ⟨hu0, hu1⟩ := nU_lt HB.out k (by rw [HN.out]; omega)
                have hp : 256 ^ k ≤ 256 ^ 7 := Nat.pow_le_pow_right (by omega) (by omega)
                have hu2 : nU (r.take k) < 72057594037927936 := by omega
                have HU2 := Lib.hid (nU_succ hx)
                generalize nU (r.take k) = u at *
                clear hx hp hu1
                go_wp2
                go_roundw
                case rel => exact ⟨k + 1, by omega, by rw [HU2.out], by go_num, by trivial⟩
                case measure => simp [intOf]; omega
              · have hke : k = S := by omega
                subst hke
                have hkm2 : ¬ (k : Int) < hd - 128 := by rw [HS1.out]; omega
                rw [HU.out]
                by_cases hbig : 9223372036854775808 ≤ U
                · have hp0 : p = (0, 0) := by rw [← HP.out]; exact firstR_none (by rw [HFB.out, if_pos hbig])
                  go_wp2_with fail
                  go_ret2
                  exact ⟨rfl, Below.refl _ _⟩
                · have hbig2 : U < 9223372036854775808 := by omega
                  have hNK : okI U := by unfold okI; omega
                  have HNK := Lib.hid hNK
                  have hfb := HFB.out
                  rw [if_neg hbig] at hfb
                  have hTK := HH.out.take (k := 1 + k) (by rw [HL.out]; omega)
                  rw [show (hd :: r).take (1 + k) = hd :: r.take k by rw [Nat.add_comm]; rfl] at hTK
                  have HTK := Lib.hid hTK
                  obtain ⟨sa, hsa⟩ : ∃ sa, strOfNums (numB U) = sa := ⟨_, rfl⟩
                  obtain ⟨sb, hsb⟩ : ∃ sb, strOfNums (hd :: r.take k) = sb := ⟨_, rfl⟩
                  have hiff : sa = sb ↔ numB U = hd :: r.take k := by
                    rw [← hsa, ← hsb]
                    exact ⟨strOf_inj (fun b hb => numB_mem HNK.out hb) (fun b hb => by rcases List.mem_cons.1 hb with rfl | hb; exact ⟨h0, h1⟩; exact HB.out b (List.mem_of_mem_take hb)), fun e => by rw [e]⟩
                  have HSA := Lib.hid hsa; have HSB := Lib.hid hsb; have HIFF := Lib.hid hiff; have HFR := Lib.hid hfb
                  clear hNK hfb hTK hsa hsb hiff hbig hkm
                  go_wp2_with fail
                  refine (rNum _ _ HNK.out).mono ?_
                  rintro e w1 ⟨vc, rfl, hvc, hb⟩
                  have hq1 : ∀ q, _ := fun q => (hvc.1.fr ((Fr.refl (fun _ => False) w1).drewN q) (fun _ h => h.elim)).string
                  rw [HSA.out] at hq1
                  have hq2 : ∀ q, _ := fun q => ((HTK.out.fr (Fr.below (S := fun _ => False) hb) (fun _ h => h.elim)).fr ((Fr.refl (fun _ => False) w1).drewN q) (fun _ h => h.elim)).string
                  rw [HSB.out] at hq2
                  have HBB := Lib.hid hb
                  have hvb := hvc.1
                  obtain ⟨_, av, cv, rfl, -⟩ := hvb
                  clear hvc hb
                  have hb1 : 1 + (hd - 128) ≤ (c : Int) := by omega
                  have hb0 : (0 : Int) ≤ 1 + (hd - 128) := by omega
                  have htn : (1 + (hd - 128)).toNat = 1 + k := by have := HS1.out; omega
                  go_wp2_with fail
                  rcases Decidable.em (sa = sb) with heq | hne
                  · subst heq
                    have hp0 : p = (U, 1 + k) := by rw [← HP.out]; exact firstR_some (by rw [HFR.out, if_pos (HIFF.out.1 rfl)])
                    have hval : (1 : Int) + (hd - 128) = ((1 + k : Nat) : Int) := by have := HS1.out; omega
                    have HV := Lib.hid hval
                    have HP0 := Lib.hid hp0
                    clear hval hp0
                    go_quiet (fail)
                    go_wp2
                    go_ret2
                    refine ⟨?_, ⟨HBB.out.os, HBB.out.tape, HBB.out.output, HBB.out.size, HBB.out.block⟩⟩
                    rw [HP0.out]
                    unfold firstW
                    dsimp only
                    rw [← HV.out]
                    rfl
                  · have hbne : (sa.toList == sb.toList) = false := strNe hne
                    have hp0 : p = (0, 0) := by rw [← HP.out]; exact firstR_none (by rw [HFR.out, if_neg (fun e => hne (HIFF.out.2 e))])
                    have HP0 := Lib.hid hp0
                    clear hp0
                    go_quiet (fail)
                    go_wp2
                    go_ret2
                    rw [HP0.out]
                    exact ⟨rfl, ⟨HBB.out.os, HBB.out.tape, HBB.out.output, HBB.out.size, HBB.out.block⟩⟩
          · have hS1 : hd - 144 = (S : Int) := by unfold dSize at hS; split at hS <;> omega
            have hS8 : S ≤ 8 := by omega
            have hfb := firstB_in (r := r) (.inr ⟨h3, h4⟩) hS HB.out (by rw [HN.out]; omega)
            obtain ⟨U, hU⟩ : ∃ U, nU (r.take S) = U := ⟨_, rfl⟩
            rw [hU] at hfb
            have hcc : 144 ≤ hd := h3
            simp only [if_pos hcc] at hfb
            obtain ⟨hU0, hU1⟩ := nU_lt HB.out S (by rw [HN.out]; omega)
            have hp : 256 ^ S ≤ 256 ^ 8 := Nat.pow_le_pow_right (by omega) hS8
            rw [hU] at hU0 hU1
            have hU2 : U < 18446744073709551616 := by omega
            obtain ⟨p, hp2⟩ : ∃ p, firstR (hd :: r) = p := ⟨_, rfl⟩
            rw [hp2]
            have HP := Lib.hid hp2
            have HU := Lib.hid hU; have HFB := Lib.hid hfb
            have hS2 : 1 + (hd - 144) ≤ (n : Int) + 1 := by omega
            have HS1 := Lib.hid hS1
            have hS3 : (hd - 144) ≤ 8 := by omega
            clear hp hU1 hU hfb hS hS1 hp2 hcc
            go_enter Tryz.func110, Tryz.ntmps110
            go_wp2_with fail
            go_loopw [6, 7] (fun u i wr => ∃ k : Nat, k ≤ S ∧ u = .int .u64 (nU (r.take k)) ∧ i = .int .i64 k ∧ wr = w) (fun _ i _ => S - (intOf i).toNat)
            case atStart => exact ⟨0, by omega, rfl, rfl, rfl⟩
            case round =>
              obtain ⟨k, hk, rfl, rfl, rfl⟩ := hrel
              by_cases hkm : k < S
              · obtain ⟨x, hx⟩ : ∃ x, r[k]? = some x := ⟨r[k]'(by have := HN.out; omega), List.getElem?_eq_getElem _⟩
                have hcx := HC.out k x hx
                have hcx : wr.cell? ⟨ad.block, ad.off + 1 + k, none⟩ = some (.int .u8 x) := by
                  rw [← hcx]
                  unfold Addr.add
                  rw [if_neg (by omega)]
                  congr 2; omega
                obtain ⟨x0, x1⟩ := HB.out x (List.mem_of_getElem? hx)
                have hkm2 : (k : Int) < hd - 144 := by rw [HS1.out]; omega
                obtain ⟨hu0, hu1⟩ := nU_lt HB.out k (by rw [HN.out]; omega)
                have hp : 256 ^ k ≤ 256 ^ 7 := Nat.pow_le_pow_right (by omega) (by omega)
                have hu2 : nU (r.take k) < 72057594037927936 := by omega
                have HU2 := Lib.hid (nU_succ hx)
                generalize nU (r.take k) = u at *
                clear hx hp hu1
                go_wp2
                go_roundw
                case rel => exact ⟨k + 1, by omega, by rw [HU2.out], by go_num, by trivial⟩
                case measure => simp [intOf]; omega
              · have hke : k = S := by omega
                subst hke
                have hkm2 : ¬ (k : Int) < hd - 144 := by rw [HS1.out]; omega
                rw [HU.out]
                by_cases hbig : 9223372036854775808 ≤ U
                · have hp0 : p = (0, 0) := by rw [← HP.out]; exact firstR_none (by rw [HFB.out, if_pos hbig])
                  go_wp2_with fail
                  go_ret2
                  exact ⟨rfl, Below.refl _ _⟩
                · have hbig2 : U < 9223372036854775808 := by omega
                  have hNK : okI (-1 - U) := by unfold okI; omega
                  have HNK := Lib.hid hNK
                  have hfb := HFB.out
                  rw [if_neg hbig] at hfb
                  have hTK := HH.out.take (k := 1 + k) (by rw [HL.out]; omega)
                  rw [show (hd :: r).take (1 + k) = hd :: r.take k by rw [Nat.add_comm]; rfl] at hTK
                  have HTK := Lib.hid hTK
                  obtain ⟨sa, hsa⟩ : ∃ sa, strOfNums (numB (-1 - U)) = sa := ⟨_, rfl⟩
                  obtain ⟨sb, hsb⟩ : ∃ sb, strOfNums (hd :: r.take k) = sb := ⟨_, rfl⟩
                  have hiff : sa = sb ↔ numB (-1 - U) = hd :: r.take k := by
                    rw [← hsa, ← hsb]
                    exact ⟨strOf_inj (fun b hb => numB_mem HNK.out hb) (fun b hb => by rcases List.mem_cons.1 hb with rfl | hb; exact ⟨h0, h1⟩; exact HB.out b (List.mem_of_mem_take hb)), fun e => by rw [e]⟩
                  have HSA := Lib.hid hsa; have HSB := Lib.hid hsb; have HIFF := Lib.hid hiff; have HFR := Lib.hid hfb
                  clear hNK hfb hTK hsa hsb hiff hbig hkm
                  go_wp2_with fail
                  refine (rNum _ _ HNK.out).mono ?_
                  rintro e w1 ⟨vc, rfl, hvc, hb⟩
                  have hq1 : ∀ q, _ := fun q => (hvc.1.fr ((Fr.refl (fun _ => False) w1).drewN q) (fun _ h => h.elim)).string
                  rw [HSA.out] at hq1
                  have hq2 : ∀ q, _ := fun q => ((HTK.out.fr (Fr.below (S := fun _ => False) hb) (fun _ h => h.elim)).fr ((Fr.refl (fun _ => False) w1).drewN q) (fun _ h => h.elim)).string
                  rw [HSB.out] at hq2
                  have HBB := Lib.hid hb
                  have hvb := hvc.1
                  obtain ⟨_, av, cv, rfl, -⟩ := hvb
                  clear hvc hb
                  have hb1 : 1 + (hd - 144) ≤ (c : Int) := by omega
                  have hb0 : (0 : Int) ≤ 1 + (hd - 144) := by omega
                  have htn : (1 + (hd - 144)).toNat = 1 + k := by have := HS1.out; omega
                  go_wp2_with fail
                  rcases Decidable.em (sa = sb) with heq | hne
                  · subst heq
                    have hp0 : p = ((-1 - U), 1 + k) := by rw [← HP.out]; exact firstR_some (by rw [HFR.out, if_pos (HIFF.out.1 rfl)])
                    have hval : (1 : Int) + (hd - 144) = ((1 + k : Nat) : Int) := by have := HS1.out; omega
                    have HV := Lib.hid hval
                    have HP0 := Lib.hid hp0
                    clear hval hp0
                    go_quiet (fail)
                    go_wp2
                    go_ret2
                    refine ⟨?_, ⟨HBB.out.os, HBB.out.tape, HBB.out.output, HBB.out.size, HBB.out.block⟩⟩
                    rw [HP0.out]
                    unfold firstW
                    dsimp only
                    rw [← HV.out]
                    rfl
                  · have hbne : (sa.toList == sb.toList) = false := strNe hne
                    have hp0 : p = (0, 0) := by rw [← HP.out]; exact firstR_none (by rw [HFR.out, if_neg (fun e => hne (HIFF.out.2 e))])
                    have HP0 := Lib.hid hp0
                    clear hp0
                    go_quiet (fail)
                    go_wp2
                    go_ret2
                    rw [HP0.out]
                    exact ⟨rfl, ⟨HBB.out.os, HBB.out.tape, HBB.out.output, HBB.out.size, HBB.out.block⟩⟩
end Go.Proofs.YtlniekobijcanaaGreat
namespace Go.Proofs.YtlniekobijcanaaGreat
open Go.RowKit Go.Maps
abbrev Tst := List Int × Bool
def tk (t : Tst) (a b : Int) : Int × Tst := ((numT t.1 t.2 a b).1, (numT t.1 t.2 a b).2)
theorem firstB_i64 {bs : List Int} {n : Int} {k : Nat} (h : firstB bs = some (n, k)) : n < 128 ∨ okI n := by
  cases bs with
  | nil => cases h
  | cons a r =>
    simp only [firstB] at h
    split at h
    · cases h; exact .inl (by assumption)
    · split at h
      · cases h
      · split at h
        · injection h with h
          injection h with h1 h2
          right; rw [← h1]; unfold dN wrap64 okI; omega
        · cases h
theorem tk_in (t : Tst) {a b : Int} (h0 : a ≤ 0) (h1 : 0 ≤ b) : a ≤ (tk t a b).1 ∧ (tk t a b).1 ≤ b := by
  unfold tk numT
  dsimp only
  split
  · exact ⟨h0, h1⟩
  · split
    · split
      · exact ⟨h0, h1⟩
      · dsimp only; omega
    · exact ⟨h0, h1⟩
theorem tk_in1 (t : Tst) {b : Int} (h1 : 0 ≤ b) : 0 ≤ (tk t 1 b).1 ∧ (tk t 1 b).1 ≤ b := by
  unfold tk numT
  dsimp only
  split
  · exact ⟨by omega, h1⟩
  · split
    · split
      · exact ⟨by omega, h1⟩
      · dsimp only; omega
    · exact ⟨by omega, h1⟩
theorem xTk (w : World) (g : Nat) (TS : Nat → Prop) (t : Tst) (a b : Int) (h : TK w g TS t.1 t.2) :
    Calls Tryz.prog 63 #[.pointer (some ⟨g, 0, none⟩), .int .i64 a, .int .i64 b] w fun e w' => e = .returned (.int .i64 (tk t a b).1) ∧ TK w' g TS (tk t a b).2.1 (tk t a b).2.2 ∧ Fr TS w w' := cTNum w g TS t.1 t.2 a b h
theorem tk_bad {t : Tst} (h : t.2 = true) (a b : Int) : tk t a b = (0, t) := by
  obtain ⟨bs, bad⟩ := t
  dsimp only at h
  subst h
  simp [tk, numT]
theorem tk_bad0 (t : Tst) (a b : Int) (h : (tk t a b).2.2 = true) : (tk t a b).1 = 0 := by
  unfold tk numT at *
  dsimp only at *
  split at h
  · simp_all
  · split at h
    · split at h
      · simp_all
      · cases h
    · simp_all
theorem tk_ok {t : Tst} {a b : Int} (h : (tk t a b).2.2 = false) : t.2 = false ∧ a ≤ (tk t a b).1 ∧ (tk t a b).1 ≤ b := by
  obtain ⟨bs, bad⟩ := t
  unfold tk numT at *
  dsimp only at *
  cases bad with
  | true => simp at h
  | false =>
    cases e : firstB bs with
    | none => rw [e] at h; simp at h
    | some p =>
      obtain ⟨n, k⟩ := p
      rw [e] at h
      simp only [Bool.false_eq_true, if_false] at h ⊢
      by_cases hr : n < a ∨ b < n
      · rw [if_pos hr] at h; cases h
      · rw [if_neg hr]
        refine ⟨by first | rfl | trivial, ?_⟩
        dsimp only; omega
theorem tk_take {t : Tst} {a b : Int} (hb : Byt t.1) (h : (tk t a b).2.2 = false) : okI (tk t a b).1 ∧ t.1 = numB (tk t a b).1 ++ (tk t a b).2.1 ∧ (a ≤ (tk t a b).1 ∧ (tk t a b).1 ≤ b) ∧ t.2 = false ∧ Byt (tk t a b).2.1 := by
  obtain ⟨bs, bad⟩ := t
  unfold tk numT at *
  dsimp only at *
  cases bad with
  | true => simp at h
  | false =>
    cases e : firstB bs with
    | none => rw [e] at h; simp at h
    | some p =>
      obtain ⟨n, k⟩ := p
      rw [e] at h
      simp only [Bool.false_eq_true, if_false] at h ⊢
      by_cases hr : n < a ∨ b < n
      · rw [if_pos hr] at h; cases h
      · rw [if_neg hr]
        obtain ⟨h1, h2, h3⟩ := firstB_of e hb
        exact ⟨h1, h3, by dsimp only; omega, by first | rfl | trivial, fun x hx => hb x (List.mem_of_mem_drop hx)⟩
theorem tk_give {n a b : Int} (h : okI n) (h1 : a ≤ n) (h2 : n ≤ b) (r : List Int) : tk (numB n ++ r, false) a b = (n, (r, false)) := by
  unfold tk numT
  simp only [Bool.false_eq_true, if_false, firstB_num h]
  rw [if_neg (by omega)]
  simp
end Go.Proofs.YtlniekobijcanaaGreat
namespace Go.Proofs.YtlniekobijcanaaGreat
open Go.RowKit Go.Maps
/-- The document's taker: its bytes lie in a block of K, which nobody changes. -/
structure TR (w : World) (g : Nat) (K : Nat → Prop) (bs : List Int) (bad : Bool) : Prop where
  ex : ∃ v, w.heap[g]? = some (.cells #[v, .bool bad] 105) ∧ Bs w v bs ∧ (∀ a n c, v = .slice a n c → n ≤ c) ∧ ∀ b, v.ownBlock = some b → K b ∧ b ≠ g
theorem TR.lt {w : World} {g : Nat} {K : Nat → Prop} {bs : List Int} {bad : Bool} (h : TR w g K bs bad) : g < w.heap.size := by
  obtain ⟨v, h1, _⟩ := h
  exact (Array.getElem?_eq_some_iff.1 h1).1
theorem TR.fr {S K : Nat → Prop} {w w' : World} {g : Nat} {bs : List Int} {bad : Bool} (h : TR w g K bs bad) (hf : Fr S w w') (hg : ¬ S g) (hS : ∀ b, K b → ¬ S b) : TR w' g K bs bad := by
  obtain ⟨v, h1, h2, h3, h4⟩ := h
  exact ⟨v, hf.at_ h1 hg, h2.keep hf (fun b hb => hS _ (h4 b hb).1), h3, h4⟩
set_option maxRecDepth 100000 in
set_option maxHeartbeats 1000000 in
theorem rTNum (w : World) (g : Nat) (K : Nat → Prop) (bs : List Int) (bad : Bool) (least most : Int) (h : TR w g K bs bad) :
    Calls Tryz.prog 66 #[.pointer (some ⟨g, 0, none⟩), .int .i64 least, .int .i64 most] w fun e w' => e = .returned (.int .i64 (numT bs bad least most).1) ∧ TR w' g K (numT bs bad least most).2.1 (numT bs bad least most).2.2 ∧ Fr (fun b => b = g) w w' := by
  have HT := Lib.hid h
  obtain ⟨v, h1, h2, h3, h4⟩ := h
  obtain ⟨_, a, c, rfl, _⟩ := id h2
  have b0 := cell_obj h1 0 (.slice a bs.length c) rfl
  have b1 := cell_obj h1 1 (.bool bad) rfl
  have H1 := Lib.hid h1; have H2 := Lib.hid h2; have H3 := Lib.hid h3; have H4 := Lib.hid h4
  have hFi := Lib.hid (rFirst w _ bs h2 h3)
  clear h1 h2 h3 h4
  cases bad with
  | true =>
    clear b0
    unfold numT
    go_enter Tryz.func66, Tryz.ntmps66
    go_wp2
    go_ret
    exact ⟨rfl, HT.out, Fr.refl _ _⟩
  | false =>
    obtain ⟨o, ho⟩ : ∃ o, firstB bs = o := ⟨_, rfl⟩
    have HO := Lib.hid ho
    clear ho
    have hfault : ∀ w2, Fr (fun _ => False) w w2 → TR (w2.setCell ⟨g, 1, none⟩ (.bool true)) g K bs true ∧ Fr (fun b => b = g) w (w2.setCell ⟨g, 1, none⟩ (.bool true)) := fun w2 hF2 => by
      have hF : Fr (fun b => b = g) w2 (w2.setCell ⟨g, 1, none⟩ (.bool true)) := (Fr.refl (fun b => b = g) w2).setCell (p := ⟨g, 1, none⟩) (fun _ => rfl) _
      exact ⟨⟨_, obj_set (hF2.at_ H1.out (fun h => h)) 1 (.bool true), (H2.out.fr hF2 (fun _ h => h.elim)).keep hF (fun b hb => (H4.out b hb).2), H3.out, H4.out⟩, (hF2.mono (fun _ _ h => h.elim)).trans' hF (fun b _ e => e)⟩
    have HFAULT := Lib.hid hfault
    clear hfault
    cases o with
    | none =>
      have e : numT bs false least most = (0, bs, true) := by simp [numT, HO.out]
      rw [e]
      have hfi := hFi.out
      rw [firstR_none HO.out] at hfi
      have HFI := Lib.hid hfi
      clear e hfi hFi
      go_enter Tryz.func66, Tryz.ntmps66
      go_wp2_with fail
      refine HFI.out.mono ?_
      rintro e w2 ⟨rfl, hB⟩
      unfold firstW
      dsimp only
      have hG2 := (Fr.below (S := fun _ => False) hB).at_ H1.out (fun h => h)
      have f1 := obj_frozen hG2 1
      have c1 := cell_obj hG2 1 (.bool false) rfl
      have HF2 := Lib.hid (Fr.below (S := fun _ => False) hB)
      clear hB hG2 b0 b1
      go_wp2_with fail
      go_ret
      exact ⟨rfl, HFAULT.out _ HF2.out⟩
    | some p =>
      obtain ⟨n, k⟩ := p
      obtain ⟨hk1, hk2⟩ := firstB_le HO.out
      have hfi := hFi.out
      rw [firstR_some HO.out] at hfi
      have HFI := Lib.hid hfi
      clear hfi hFi
      by_cases hbnd : n < least ∨ most < n
      · have e : numT bs false least most = (0, bs, true) := by simp [numT, HO.out, hbnd]
        rw [e]
        clear e hk2
        have hk0 : ((k : Int) == 0) = false := by simp; omega
        rcases (by omega : n < least ∨ least ≤ n ∧ most < n) with hlo | ⟨hlo, hhi⟩
        all_goals
          clear hbnd
          go_enter Tryz.func66, Tryz.ntmps66
          go_wp2_with fail
          refine HFI.out.mono ?_
          rintro e w2 ⟨rfl, hB⟩
          unfold firstW
          dsimp only
          have hG2 := (Fr.below (S := fun _ => False) hB).at_ H1.out (fun h => h)
          have f1 := obj_frozen hG2 1
          have c1 := cell_obj hG2 1 (.bool false) rfl
          have HF2 := Lib.hid (Fr.below (S := fun _ => False) hB)
          clear hB hG2 b0 b1
          go_wp2_with fail
          go_ret
          exact ⟨rfl, HFAULT.out _ HF2.out⟩
      · have e : numT bs false least most = (n, bs.drop k, false) := by simp only [numT, HO.out, hbnd]; simp
        rw [e]
        have hk0 : ((k : Int) == 0) = false := by simp; omega
        have hlo : least ≤ n := by omega
        have hhi : n ≤ most := by omega
        clear e hbnd
        have hcap := H3.out _ _ _ rfl
        obtain ⟨ln, hln⟩ : ∃ ln, bs.length = ln := ⟨_, rfl⟩
        have HLN := Lib.hid hln
        rw [hln] at hk2 hcap b0 HFI
        clear hln
        go_enter Tryz.func66, Tryz.ntmps66
        go_wp2_with fail
        refine HFI.out.mono ?_
        rintro e w2 ⟨rfl, hB⟩
        unfold firstW
        dsimp only
        have hF2 := Fr.below (S := fun _ => False) hB
        have hG2 := hF2.at_ H1.out (fun h => h)
        rw [HLN.out] at hG2
        have c0 := cell_obj hG2 0 (.slice a ln c) rfl
        have f0 := obj_frozen hG2 0
        have HG2 := Lib.hid hG2; have HF2 := Lib.hid hF2
        clear hB hF2 hG2 b0 b1
        have hpost : ∀ v' : Value, Bs w2 v' (bs.drop k) → (∀ a n c, v' = .slice a n c → n ≤ c) → (∀ b, v'.ownBlock = some b → (Value.slice a ln c).ownBlock = some b) →
            TR (w2.setCell ⟨g, 0, none⟩ v') g K (bs.drop k) false ∧ Fr (fun b => b = g) w (w2.setCell ⟨g, 0, none⟩ v') := fun v' hb hc ho => by
          have hF : Fr (fun b => b = g) w2 (w2.setCell ⟨g, 0, none⟩ v') := (Fr.refl (fun b => b = g) w2).setCell (p := ⟨g, 0, none⟩) (fun _ => rfl) _
          have h4 := H4.out
          rw [HLN.out] at h4
          exact ⟨⟨v', obj_set HG2.out 0 v', hb.keep hF (fun b e => (h4 b (ho b e)).2), hc, fun b e => h4 b (ho b e)⟩, (HF2.out.mono (fun _ _ h => h.elim)).trans' hF (fun b _ e => e)⟩
        have HPOST := Lib.hid hpost
        have hb2 : Bs w2 (.slice a ln c) bs := by have := H2.out.fr HF2.out (fun _ h => h.elim); rw [HLN.out] at this; exact this
        have HB2 := Lib.hid hb2
        clear hpost hb2
        go_wp2_with fail
        · have hck : c = k := by assumption
          have hlk : ln = k := by omega
          go_ret
          refine ⟨rfl, HPOST.out _ ?_ ?_ ?_⟩
          · have e0 : bs.drop k = [] := List.drop_eq_nil_of_le (by rw [HLN.out]; omega)
            rw [e0, show ln - k = 0 by omega]
            exact Bs.none' _ _ _
          · rintro a' n' c' e
            injection e with _ e2 e3
            omega
          · intro b e
            cases a with
            | none => cases e
            | some ad => exact e
        · go_ret
          refine ⟨rfl, HPOST.out _ (HB2.out.drop HLN.out hk2) ?_ ?_⟩
          · rintro a' n' c' e
            injection e with _ e2 e3
            omega
          · intro b e
            cases a with
            | none => cases e
            | some ad =>
              have hb : (ad.add k).block = ad.block := by unfold Addr.add; split <;> rfl
              simp only [Option.map, Value.ownBlock, hb] at e ⊢
              exact e
theorem rTk (w : World) (g : Nat) (K : Nat → Prop) (t : Tst) (a b : Int) (h : TR w g K t.1 t.2) :
    Calls Tryz.prog 66 #[.pointer (some ⟨g, 0, none⟩), .int .i64 a, .int .i64 b] w fun e w' => e = .returned (.int .i64 (tk t a b).1) ∧ TR w' g K (tk t a b).2.1 (tk t a b).2.2 ∧ Fr (fun b => b = g) w w' := rTNum w g K t.1 t.2 a b h
end Go.Proofs.YtlniekobijcanaaGreat
namespace Go.Proofs.YtlniekobijcanaaGreat
open Go.RowKit Go.Maps
abbrev Str := List UInt8
abbrev vS (s : Str) : Value := .string ⟨s.toArray⟩
theorem bytesBefore_eq : ∀ (x y : Str), bytesBefore x y = decide (x < y)
  | [], [] => by simp [bytesBefore]
  | _ :: _, [] => by simp [bytesBefore]
  | [], _ :: _ => by simp [bytesBefore]
  | a :: x, b :: y => by
    rw [bytesBefore, bytesBefore_eq x y, ← bytesLess_eq, ← bytesLess_eq, Op.bytesLess]
def okS (s : Str) : Prop := s.length ≤ maxLen
def ktS : KT Str where
  enc := vS
  lit := .string
  ok := okS
theorem ktS_lt (a b : Str) : ktS.lt a b = decide (a < b) := bytesBefore_eq a b
theorem koS {P : Program} {k : TypeId} (hk : P.underlying k = some .string) : KO P k ktS where
  keyed := string_keyed hk
  key {x} h := by
    have h : x.length ≤ maxLen := h
    have hs : (ByteArray.mk x.toArray).size ≤ maxLen := by simpa [ByteArray.size] using h
    simp [keyOf, hk, mapKey, ktS, hs]
  back {v kl} h := by
    obtain ⟨x, h1, h2, h3⟩ := keyOf_str hk h
    exact ⟨x, h3, h1, h2⟩
  same x y := by rw [Bool.eq_iff_iff]; simp [ktS, Lit.sameKey]
theorem str_irr (a : Str) : ¬ a < a := List.lt_irrefl a
theorem str_trans {a b c : Str} (h : a < b) (h' : b < c) : a < c := List.lt_trans h h'
theorem str_tri (a b : Str) : a < b ∨ a = b ∨ b < a := by
  by_cases h : a < b
  · exact .inl h
  · by_cases h' : b < a
    · exact .inr (.inr h')
    · exact .inr (.inl (List.le_antisymm h' h))
theorem str_asym {a b : Str} (h : a < b) : ¬ b < a := fun h' => str_irr _ (str_trans h h')
theorem strKeys_dat {ν : Type} (enc : ν → Value) (l : List (Str × ν)) : strKeys (ktS.dat enc l) = l.map (·.1) := by
  simp [KT.dat, strKeys, ktS, strOf]
abbrev RiseS {ν : Type} (l : List (Str × ν)) : Prop := l.Pairwise (fun p q => p.1 < q.1)
theorem riseS_of {ν : Type} {l : List (Str × ν)} (h : l.Pairwise (fun p q => ktS.lt p.1 q.1 = true)) : RiseS l := h.imp (fun {p q} e => by rw [ktS_lt] at e; simpa using e)
theorem strs_sorted {ν : Type} {l : List (Str × ν)} (h : RiseS l) {ss : List Str} (hp : ss.Perm (l.map (·.1))) : ss.mergeSort (fun x y => decide (x ≤ y)) = l.map (·.1) := by
  have hlt : (l.map (·.1)).Pairwise (fun x y : Str => x < y) := by
    rw [List.pairwise_map]
    exact h
  have h1 : (ss.mergeSort (fun x y => decide (x ≤ y))).Pairwise (fun x y => decide (x ≤ y) = true) := List.pairwise_mergeSort (fun a b c h1 h2 => by simp only [decide_eq_true_eq] at *; exact List.le_trans h1 h2) (fun a b => by simp only [Bool.or_eq_true, decide_eq_true_eq]; exact List.le_total a b) ss
  have h2 : (ss.mergeSort (fun x y => decide (x ≤ y))).Perm (l.map (·.1)) := (List.mergeSort_perm ss _).trans hp
  refine h2.eq_of_pairwise (le := fun x y : Str => decide (x ≤ y) = true) (fun a b _ _ h1 h2 => by simp only [decide_eq_true_eq] at *; exact List.le_antisymm h1 h2) h1 (hlt.imp (fun {a b} e => by simp only [decide_eq_true_eq]; exact str_asym e))
/-- How the model's comparisons of strings read. -/
theorem lssS (t : TypeId) (a b : Str) : binOp .lss t (vS a) (vS b) = pure (.bool (decide (a < b))) := by
  rw [binOp_string_lss]; simp [bytesLess_eq]
theorem bytesLessS (a b : Str) : Op.bytesLess (ByteArray.mk a.toArray).toList (ByteArray.mk b.toArray).toList = decide (a < b) := by
  simp [bytesLess_eq]
theorem eqlS (a b : Str) : ((ByteArray.mk a.toArray).toList == (ByteArray.mk b.toArray).toList) = decide (a = b) := by
  rw [Bool.eq_iff_iff]; simp
section
variable {κ ν : Type} [DecidableEq κ]
omit [DecidableEq κ] in
theorem insK_perm (lt : κ → κ → Bool) (x : κ × ν) : ∀ l : List (κ × ν), (insS lt x l).Perm (x :: l)
  | [] => List.Perm.refl _
  | y :: r => by
    show (if lt x.1 y.1 = true then x :: y :: r else y :: insS lt x r).Perm _
    split
    · exact List.Perm.refl _
    · exact ((insK_perm lt x r).cons y).trans (List.Perm.swap x y r)
theorem mem_putK {lt : κ → κ → Bool} {l : List (κ × ν)} {x : κ} {v : ν} {p : κ × ν} : p ∈ putS lt l x v ↔ p = (x, v) ∨ (p ∈ l ∧ p.1 ≠ x) := by
  unfold putS
  rw [(insK_perm lt (x, v) _).mem_iff, List.mem_cons]
  simp [delS]
theorem putK_len (lt : κ → κ → Bool) (l : List (κ × ν)) (x : κ) (v : ν) : (putS lt l x v).length ≤ l.length + 1 := by
  unfold putS
  rw [(insK_perm lt (x, v) _).length_eq, List.length_cons]
  have := List.length_filter_le (fun p : κ × ν => !decide (p.1 = x)) l
  unfold delS
  omega
theorem getK_none {l : List (κ × ν)} {x : κ} : getS l x = none ↔ ∀ p ∈ l, p.1 ≠ x := by
  induction l with
  | nil => simp [getS]
  | cons p r ih =>
    simp only [getS]
    by_cases h : p.1 = x
    · rw [if_pos h]; simp [h]
    · rw [if_neg h, ih]; simp [h]
theorem getK_mem {l : List (κ × ν)} {x : κ} {v : ν} (h : getS l x = some v) : (x, v) ∈ l := by
  induction l with
  | nil => cases h
  | cons p r ih =>
    simp only [getS] at h
    by_cases e : p.1 = x
    · rw [if_pos e] at h
      cases h
      subst e
      simp
    · rw [if_neg e] at h
      exact List.mem_cons_of_mem _ (ih h)
theorem getK_of {l : List (κ × ν)} {x : κ} {v : ν} (hnd : (l.map (·.1)).Nodup) (h : (x, v) ∈ l) : getS l x = some v := by
  induction l with
  | nil => cases h
  | cons p r ih =>
    rw [List.map_cons, List.nodup_cons] at hnd
    simp only [getS]
    rcases List.mem_cons.1 h with rfl | h
    · rw [if_pos rfl]
    · have hne : ¬ p.1 = x := by
        intro e
        exact hnd.1 (by rw [e]; exact List.mem_map.2 ⟨_, h, rfl⟩)
      rw [if_neg hne]
      exact ih hnd.2 h
omit [DecidableEq κ] in
theorem nd_perm {l l' : List (κ × ν)} (h : l.Perm l') (hn : (l'.map (·.1)).Nodup) : (l.map (·.1)).Nodup := (h.map _).nodup_iff.2 hn
theorem putK_nd {lt : κ → κ → Bool} {l : List (κ × ν)} {x : κ} {v : ν} (hn : (l.map (·.1)).Nodup) : ((putS lt l x v).map (·.1)).Nodup := by
  unfold putS
  refine nd_perm (insK_perm lt (x, v) _) ?_
  rw [List.map_cons, List.nodup_cons]
  refine ⟨fun h => ?_, ?_⟩
  · obtain ⟨p, hp, e⟩ := List.mem_map.1 h
    have := (List.mem_filter.1 hp).2
    simp [e] at this
  · exact List.Nodup.sublist (List.Sublist.map _ List.filter_sublist) hn
theorem getK_put {lt : κ → κ → Bool} {l : List (κ × ν)} {x y : κ} {v : ν} (hn : (l.map (·.1)).Nodup) : getS (putS lt l x v) y = if x = y then some v else getS l y := by
  by_cases e : x = y
  · subst e
    rw [if_pos rfl]
    exact getK_of (putK_nd hn) (mem_putK.2 (.inl rfl))
  · rw [if_neg e]
    cases h : getS l y with
    | none =>
      refine getK_none.2 (fun p hp => ?_)
      rcases mem_putK.1 hp with rfl | ⟨hp, -⟩
      · exact e
      · exact getK_none.1 h p hp
    | some u => exact getK_of (putK_nd hn) (mem_putK.2 (.inr ⟨getK_mem h, fun h => e h.symm⟩))
end
theorem riseS_nd {ν : Type} {l : List (Str × ν)} (h : RiseS l) : (l.map (·.1)).Nodup := by
  rw [List.Nodup, List.pairwise_map]
  refine List.Pairwise.imp ?_ h
  intro p q e h
  have e : p.1 < q.1 := e
  rw [h] at e
  exact str_irr _ e
theorem riseS_ins {ν : Type} {x : Str × ν} : ∀ {l : List (Str × ν)}, RiseS l → (∀ p ∈ l, p.1 ≠ x.1) → RiseS (insS ktS.lt x l)
  | [], _, _ => by simp [insS]
  | y :: r, h, hx => by
    obtain ⟨h1, h2⟩ := List.pairwise_cons.1 h
    show RiseS (if ktS.lt x.1 y.1 = true then x :: y :: r else y :: insS ktS.lt x r)
    rw [ktS_lt]
    by_cases hlt : x.1 < y.1
    · rw [if_pos (by simpa using hlt)]
      refine List.pairwise_cons.2 ⟨fun p hp => ?_, h⟩
      rcases List.mem_cons.1 hp with rfl | hp
      · exact hlt
      · exact str_trans hlt (h1 p hp)
    · rw [if_neg (by simpa using hlt)]
      refine List.pairwise_cons.2 ⟨fun p hp => ?_, riseS_ins h2 (fun p hp => hx p (List.mem_cons_of_mem _ hp))⟩
      rcases List.mem_cons.1 ((insK_perm ktS.lt x r).mem_iff.1 hp) with rfl | hp
      · rcases str_tri y.1 p.1 with h | h | h
        · exact h
        · exact absurd h (hx y (by simp))
        · exact absurd h hlt
      · exact h1 p hp
theorem riseS_put {ν : Type} {l : List (Str × ν)} {x : Str} {v : ν} (h : RiseS l) : RiseS (putS ktS.lt l x v) :=
  riseS_ins (h.sublist List.filter_sublist) (fun p hp => by simpa [delS] using (List.mem_filter.1 hp).2)
end Go.Proofs.YtlniekobijcanaaGreat
namespace Go.Proofs.YtlniekobijcanaaGreat
open Go.RowKit Go.Maps
/-- A text's bytes. -/
def sB (s : Str) : List Int := s.map fun c => (c.toNat : Int)
theorem sB_len (s : Str) : (sB s).length = s.length := by simp [sB]
theorem sB_byt (s : Str) : Byt (sB s) := by
  intro x hx
  obtain ⟨c, -, rfl⟩ := List.mem_map.1 hx
  have := c.toNat_lt
  omega
/-- A text's cell. -/
def textB (s : Str) : List Int := numB (s.length : Int) ++ sB s
theorem bytesWorld_fr (w : World) (e : TypeId) (s : ByteArray) : Fr (fun _ => False) w (Lib.bytesWorld w e s) :=
  ⟨rfl, rfl, rfl, by rw [Lib.bytesWorld_size]; omega, fun b hb _ => Lib.bytesWorld_at_old w e s b hb⟩
theorem bytesWorld_bs (w : World) (s : Str) (c : Nat) (hs : s.length ≤ 65536) : Bs (Lib.bytesWorld w 5 ⟨s.toArray⟩) (.slice (some ⟨w.heap.size, 0, none⟩) s.length c) (sB s) := by
  refine ⟨by rw [sB_len]; omega, some ⟨w.heap.size, 0, none⟩, c, by rw [sB_len], fun i x hx => ?_⟩
  have hb := sB_byt s x (List.mem_of_getElem? hx)
  refine ⟨hb.1, hb.2, _, rfl, ?_⟩
  have hi : i < s.length := by have := (List.getElem?_eq_some_iff.1 hx).1; rwa [sB_len] at this
  have := Lib.bytesWorld_cell w 5 ⟨s.toArray⟩ i (by simpa [ByteArray.size] using hi)
  rw [show (⟨w.heap.size, 0, none⟩ : Addr).add i = ⟨w.heap.size, i, none⟩ by simp [Addr.add]; omega, this]
  unfold sB at hx
  rw [List.getElem?_map, List.getElem?_eq_getElem hi] at hx
  injection hx with hx
  subst hx
  simp [List.getD, hi]
set_option maxRecDepth 100000 in
set_option maxHeartbeats 2000000 in
theorem cMText (w : World) (g : Nat) (TS : Nat → Prop) (bs : List Int) (long : Bool) (s : Str) (h : MK w g TS bs long) (hs : s.length ≤ 65536) :
    Calls Tryz.prog 115 #[.pointer (some ⟨g, 0, none⟩), vS s] w fun e w' => e = .returned (.pointer (some ⟨g, 0, none⟩)) ∧ ∃ TS', MK w' g TS' (putB bs long (textB s)) (putL bs long (textB s)) ∧ Stp TS w w' TS' := by
  have hn : okI (s.length : Int) := by unfold okI; omega
  have hl := numB_len hn
  have hN := Lib.hid (cNum w (s.length : Int) hn)
  have hcv := fun (W : World) => Lib.run_convert_string_bytes (P := Tryz.prog) W 9 42 5 ⟨s.toArray⟩ Tryz.underlying9 Tryz.underlying42 Tryz.underlying5
  have HH := Lib.hid h; have HL := Lib.hid hl
  have hsz : (ByteArray.mk s.toArray).size = s.length := by simp [ByteArray.size]
  simp only [hsz] at hcv
  clear h hl hsz
  go_enter Tryz.func115, Tryz.ntmps115
  go_wp2_with fail
  refine hN.out.mono ?_
  rintro e w1 ⟨v, rfl, hb, hB⟩
  obtain ⟨ad, c, rfl⟩ := hb.1.at0 (by have := HL.out; omega)
  have HBN := Lib.hid hb; have HB := Lib.hid hB
  clear hb hB
  go_wp2_with fail
  obtain ⟨cc, hcc⟩ : ∃ cc, grownCap w1 s.length 0 5 = cc := ⟨_, rfl⟩
  rw [hcc]
  have hFb := bytesWorld_fr w1 5 ⟨s.toArray⟩
  have hBs := bytesWorld_bs w1 s cc hs
  obtain ⟨V, hV⟩ : ∃ V, Lib.bytesWorld w1 5 ⟨s.toArray⟩ = V := ⟨_, rfl⟩
  rw [hV] at hFb hBs ⊢
  have hF2 : Fr (fun _ => False) w1 (V.alloc (.cells #[.slice (some ad) (numB (s.length : Int)).length c, .slice (some ⟨w1.heap.size, 0, none⟩) s.length cc] 42)) := hFb.alloc _
  have hF : Fr (fun _ => False) w _ := (Fr.below HB.out).trans hF2
  have hM := HH.out.fr hF (fun _ _ h => h)
  have hcat : catL [(Value.slice (some ad) (numB (s.length : Int)).length c, numB (s.length : Int)), (Value.slice (some ⟨w1.heap.size, 0, none⟩) s.length cc, sB s)] = textB s := by simp [catL, textB]
  have hblk := heap_new V (.cells #[.slice (some ad) (numB (s.length : Int)).length c, .slice (some ⟨w1.heap.size, 0, none⟩) s.length cc] 42)
  have hP : Parts (V.alloc (.cells #[.slice (some ad) (numB (s.length : Int)).length c, .slice (some ⟨w1.heap.size, 0, none⟩) s.length cc] 42)) (.slice (some ⟨V.heap.size, 0, none⟩) 2 2) [(Value.slice (some ad) (numB (s.length : Int)).length c, numB (s.length : Int)), (Value.slice (some ⟨w1.heap.size, 0, none⟩) s.length cc, sB s)] := by
    refine ⟨_, _, rfl, fun i p hp => ?_⟩
    match i, hp with
    | 0, hp =>
      cases hp
      exact ⟨cell_obj hblk 0 _ rfl, HBN.out.1.fr hF2 (fun _ h => h.elim), ad, _, c, rfl⟩
    | 1, hp =>
      cases hp
      exact ⟨cell_obj hblk 1 _ rfl, hBs.fr ((Fr.refl (fun _ => False) _).alloc _) (fun _ h => h.elim), ⟨w1.heap.size, 0, none⟩, _, cc, rfl⟩
  have HM := Lib.hid hM; have HP := Lib.hid hP; have HC := Lib.hid hcat; have HF := Lib.hid hF
  have hlt : Hid (0 < (textB s).length ∧ ((textB s).length : Int) ≤ 1099511627776) := Lib.hid (by have := HL.out; unfold textB; rw [List.length_append, sB_len]; omega)
  clear hFb hBs hV hF2 hF hM hcat hblk hP hcc
  refine (cPut _ g TS bs long _ _ HM.out HP.out (by simp) (by rw [HC.out]; exact hlt.out.2) (by rw [HC.out]; exact hlt.out.1)).mono ?_
  rw [HC.out]
  rintro e w2 ⟨rfl, TS', hM2, hs2⟩
  go_wp2_with fail
  go_ret
  exact ⟨rfl, TS', hM2, (Stp.refl HF.out).trans hs2⟩
end Go.Proofs.YtlniekobijcanaaGreat
namespace Go.Proofs.YtlniekobijcanaaGreat
open Go.RowKit Go.Maps
/-- Bytes, as a text. -/
def bS (bs : List Int) : Str := bs.map fun x => UInt8.ofNat x.toNat
theorem strOfNums_bS (bs : List Int) : strOfNums bs = ⟨(bS bs).toArray⟩ := rfl
theorem bS_sB (s : Str) : bS (sB s) = s := by
  unfold bS sB
  rw [List.map_map]
  conv => rhs; rw [← List.map_id s]
  refine List.map_congr_left fun c _ => ?_
  simp
theorem sB_bS {bs : List Int} (h : Byt bs) : sB (bS bs) = bs := by
  unfold bS sB
  rw [List.map_map]
  conv => rhs; rw [← List.map_id bs]
  refine List.map_congr_left fun x hx => ?_
  have := h x hx
  simp only [Function.comp, id, UInt8.toNat_ofNat']
  omega
/-- What a taker's Text gives, and what is left. -/
def tkT (t : Tst) (m : Int) : Str × Tst :=
  let n := tk t 0 m
  if n.2.2 = true then ([], n.2) else if (n.2.1.length : Int) < n.1 then ([], (n.2.1, true)) else (bS (n.2.1.take n.1.toNat), (n.2.1.drop n.1.toNat, false))
set_option maxRecDepth 100000 in
set_option maxHeartbeats 4000000 in
theorem cTText (w : World) (g : Nat) (TS : Nat → Prop) (t : Tst) (m : Int) (h : TK w g TS t.1 t.2) (hm : 0 ≤ m) :
    Calls Tryz.prog 107 #[.pointer (some ⟨g, 0, none⟩), .int .i64 m] w fun e w' => e = .returned (vS (tkT t m).1) ∧ TK w' g TS (tkT t m).2.1 (tkT t m).2.2 ∧ Fr TS w w' := by
  have hN := Lib.hid (xTk w g TS t 0 m h)
  have hin := tk_in t (a := 0) (b := m) (by omega) hm
  obtain ⟨N, hNN⟩ : ∃ N, tk t 0 m = N := ⟨_, rfl⟩
  have hT : Hid (tkT t m = if N.2.2 = true then ([], N.2) else if (N.2.1.length : Int) < N.1 then ([], (N.2.1, true)) else (bS (N.2.1.take N.1.toNat), (N.2.1.drop N.1.toNat, false))) := Lib.hid (by unfold tkT; rw [hNN])
  rw [hNN] at hN hin
  obtain ⟨n, bs, bad⟩ := N
  dsimp only at hN hin hT
  obtain ⟨h0, h1⟩ := hin
  obtain ⟨k, rfl⟩ : ∃ k : Nat, n = k := ⟨n.toNat, by omega⟩
  rw [Int.toNat_natCast] at hT
  clear h hNN
  cases bad with
  | true =>
    have hT2 : Hid (tkT t m = ([], (bs, true))) := Lib.hid (by rw [hT.out]; rfl)
    clear hT
    go_enter Tryz.func107, Tryz.ntmps107
    go_wp2_with fail
    refine hN.out.mono ?_
    rintro e w1 ⟨rfl, hK, hF⟩
    have HK := Lib.hid hK; have HF := Lib.hid hF
    clear hK hF
    go_wp2_with (go_at_call 104; refine (cMay w1 g TS bs true HK.out).mono ?_; rintro e w2 ⟨rfl, rfl⟩)
    go_ret
    rw [hT2.out]
    exact ⟨rfl, HK.out, HF.out⟩
  | false =>
    by_cases hlt : (bs.length : Int) < (k : Int)
    · have hT2 : Hid (tkT t m = ([], (bs, true))) := Lib.hid (by rw [hT.out, if_neg (by decide), if_pos hlt])
      clear hT
      go_enter Tryz.func107, Tryz.ntmps107
      go_wp2_with fail
      refine hN.out.mono ?_
      rintro e w1 ⟨rfl, hK, hF⟩
      obtain ⟨⟨v, k1, k2, k3, k4⟩, k5, k6⟩ := id hK
      obtain ⟨hbl, a, c, rfl, -⟩ := id k2
      have c0 := cell_obj k1 0 (.slice a bs.length c) rfl
      obtain ⟨ln, hln⟩ : ∃ ln, bs.length = ln := ⟨_, rfl⟩
      rw [hln] at c0 hlt hbl
      have HK := Lib.hid hK; have HF := Lib.hid hF
      clear hK hF k1 k2 k3 k4 k5 k6 hln
      go_wp2_with (first
        | (go_at_call 104; refine (cMay w1 g TS bs false HK.out).mono ?_; rintro e w2 ⟨rfl, rfl⟩)
        | (go_at_call 106; refine (cFault w1 g TS bs false HK.out).mono ?_; rintro e w2 ⟨⟨v, rfl⟩, hK2, hF2⟩; have HK2 := Lib.hid hK2; have HF2 := Lib.hid hF2; clear hK2 hF2))
      go_ret
      rw [hT2.out]
      exact ⟨rfl, HK2.out, HF.out.trans HF2.out⟩
    · have hT2 : Hid (tkT t m = (bS (bs.take k), (bs.drop k, false))) := Lib.hid (by rw [hT.out, if_neg (by decide), if_neg hlt])
      clear hT
      go_enter Tryz.func107, Tryz.ntmps107
      go_wp2_with fail
      refine hN.out.mono ?_
      rintro e w1 ⟨rfl, hK, hF⟩
      obtain ⟨⟨v, k1, k2, k3, k4⟩, k5, k6⟩ := id hK
      obtain ⟨hbl, a, c, rfl, -⟩ := id k2
      have c0 := cell_obj k1 0 (.slice a bs.length c) rfl
      have f0 := obj_frozen k1 0
      have hcap := k3 _ _ _ rfl
      obtain ⟨ln, hln⟩ : ∃ ln, bs.length = ln := ⟨_, rfl⟩
      have HLN := Lib.hid hln
      have k2 := k2
      have HK1 := Lib.hid k1; have HK2 := Lib.hid k2; have HK4 := Lib.hid k4; have HK5 := Lib.hid k5; have HK6 := Lib.hid k6
      rw [hln] at c0 hlt hbl hcap HK1 HK2 HK4
      have hkl : (k : Int) ≤ (ln : Int) := by omega
      have hk0 : (0 : Int) ≤ k := by omega
      have HK := Lib.hid hK; have HF := Lib.hid hF
      have hstr := (Bs.take HK2.out (k := k) (by omega)).string
      rw [strOfNums_bS] at hstr
      have hpost : ∀ v' : Value, Bs w1 v' (bs.drop k) → (∀ a n c, v' = .slice a n c → n ≤ c) → (∀ b, v'.ownBlock = some b → (Value.slice a ln c).ownBlock = some b) →
          TK (w1.setCell ⟨g, 0, none⟩ v') g TS (bs.drop k) false ∧ Fr TS w (w1.setCell ⟨g, 0, none⟩ v') := fun v' hb hc ho => by
        have hF0 : Fr (fun b => b = g) w1 (w1.setCell ⟨g, 0, none⟩ v') := (Fr.refl (fun b => b = g) w1).setCell (p := ⟨g, 0, none⟩) (fun _ => rfl) _
        have h4 := HK4.out
        refine ⟨⟨⟨v', obj_set HK1.out 0 v', hb.keep hF0 (fun b e => (h4 b (ho b e)).2), hc, fun b e => h4 b (ho b e)⟩, HK5.out, fun b e => ?_⟩, HF.out.trans' hF0 (fun b _ e => e ▸ HK5.out)⟩
        have := HK6.out b e; have := hF0.size; omega
      have HPOST := Lib.hid hpost
      obtain ⟨sv, hsv⟩ : ∃ sv, bS (bs.take k) = sv := ⟨_, rfl⟩
      rw [hsv] at hstr hT2
      clear hK hF k1 k2 k3 k4 k5 k6 hln hpost hsv h1
      go_wp2_with (go_at_call 104; refine (cMay w1 g TS bs false HK.out).mono ?_; rintro e w2 ⟨rfl, rfl⟩)
      · have hck : c = k := by assumption
        have hlk : ln = k := by omega
        go_ret
        rw [hT2.out]
        refine ⟨rfl, HPOST.out _ ?_ ?_ ?_⟩
        · have e0 : bs.drop k = [] := List.drop_eq_nil_of_le (by rw [HLN.out]; omega)
          rw [e0, show ln - k = 0 by omega]
          exact Bs.none' _ _ _
        · rintro a' n' c' e
          injection e with _ e2 e3
          omega
        · intro b e
          cases a with
          | none => cases e
          | some ad => exact e
      · go_ret
        rw [hT2.out]
        refine ⟨rfl, HPOST.out _ (HK2.out.drop HLN.out (by omega)) ?_ ?_⟩
        · rintro a' n' c' e
          injection e with _ e2 e3
          omega
        · intro b e
          cases a with
          | none => cases e
          | some ad =>
            have hb : (ad.add k).block = ad.block := by unfold Addr.add; split <;> rfl
            simp only [Option.map, Value.ownBlock, hb] at e ⊢
            exact e
end Go.Proofs.YtlniekobijcanaaGreat
namespace Go.Proofs.YtlniekobijcanaaGreat
open Go.RowKit Go.Maps
/-- The document's next text, and what is left. -/
def tkR (t : Tst) (m : Int) : Str × Tst :=
  let n := tk t 0 (min m t.1.length)
  if n.2.2 = true ∨ (n.2.1.length : Int) < n.1 then ([], (n.2.1, true)) else (bS (n.2.1.take n.1.toNat), (n.2.1.drop n.1.toNat, false))
set_option maxRecDepth 100000 in
set_option maxHeartbeats 4000000 in
theorem rText (w : World) (g : Nat) (K : Nat → Prop) (t : Tst) (m : Int) (h : TR w g K t.1 t.2) (hm : 0 ≤ m) :
    Calls Tryz.prog 111 #[.pointer (some ⟨g, 0, none⟩), .int .i64 m] w fun e w' => e = .returned (vS (tkR t m).1) ∧ TR w' g K (tkR t m).2.1 (tkR t m).2.2 ∧ Fr (fun b => b = g) w w' := by
  obtain ⟨v0, h1, h2, h3, h4⟩ := id h
  obtain ⟨hbl0, a0, c0, rfl, -⟩ := id h2
  have b0 := cell_obj h1 0 (.slice a0 t.1.length c0) rfl
  have hT : Hid (tkR t m = if (tk t 0 (min m t.1.length)).2.2 = true ∨ ((tk t 0 (min m t.1.length)).2.1.length : Int) < (tk t 0 (min m t.1.length)).1 then ([], ((tk t 0 (min m t.1.length)).2.1, true)) else (bS ((tk t 0 (min m t.1.length)).2.1.take (tk t 0 (min m t.1.length)).1.toNat), ((tk t 0 (min m t.1.length)).2.1.drop (tk t 0 (min m t.1.length)).1.toNat, false))) := Lib.hid rfl
  obtain ⟨R, hR⟩ : ∃ R, tkR t m = R := ⟨_, rfl⟩
  rw [hR] at hT ⊢
  clear hR
  obtain ⟨ln0, hln0⟩ : ∃ ln, t.1.length = ln := ⟨_, rfl⟩
  rw [hln0] at b0 hT hbl0
  obtain ⟨M, hM⟩ : ∃ M, min m (ln0 : Int) = M := ⟨_, rfl⟩
  rw [hM] at hT
  have hM0 : 0 ≤ M := by omega
  have hN := Lib.hid (rTk w g K t 0 M h)
  have hin := tk_in t (a := 0) (b := M) (by omega) hM0
  obtain ⟨q, hq⟩ : ∃ q, tk t 0 M = q := ⟨_, rfl⟩
  rw [hq] at hN hT hin
  obtain ⟨n, bs, bad⟩ := q
  dsimp only at hN hT hin
  obtain ⟨k, rfl⟩ : ∃ k : Nat, n = k := ⟨n.toNat, by omega⟩
  have hln0I : (ln0 : Int) ≤ 9223372036854775807 := by omega
  clear hq h h1 h2 h3 h4
  have hcut : (m ≤ (ln0 : Int) ∧ M = m) ∨ ((ln0 : Int) < m ∧ M = (ln0 : Int)) := by omega
  clear hM hln0
  rcases hcut with ⟨hc, hMe⟩ | ⟨hc, hMe⟩
  all_goals
    subst hMe
    cases bad with
    | true =>
      have hT2 : Hid (R = ([], (bs, true))) := Lib.hid (by rw [hT.out, if_pos (.inl rfl)])
      clear hT
      go_enter Tryz.func111, Tryz.ntmps111
      go_wp2_with fail
      refine hN.out.mono ?_
      rintro e w1 ⟨rfl, hK, hF⟩
      obtain ⟨v1, k1, -, -, -⟩ := id hK
      have c1 := cell_obj k1 1 (.bool true) rfl
      have f1 := obj_frozen k1 1
      have hset : TR (w1.setCell ⟨g, 1, none⟩ (.bool true)) g K bs true ∧ Fr (fun b => b = g) w (w1.setCell ⟨g, 1, none⟩ (.bool true)) := by
        have hF0 : Fr (fun b => b = g) w1 (w1.setCell ⟨g, 1, none⟩ (.bool true)) := (Fr.refl (fun b => b = g) w1).setCell (p := ⟨g, 1, none⟩) (fun _ => rfl) _
        obtain ⟨v2, j1, j2, j3, j4⟩ := hK
        exact ⟨⟨v2, obj_set j1 1 (.bool true), j2.keep hF0 (fun b e => (j4 b e).2), j3, j4⟩, hF.trans hF0⟩
      have HSET := Lib.hid hset
      clear hset hK hF k1
      go_wp2_with fail
      go_ret
      rw [hT2.out]
      exact ⟨rfl, HSET.out⟩
    | false =>
      by_cases hlt : (bs.length : Int) < k
      · have hT2 : Hid (R = ([], (bs, true))) := Lib.hid (by rw [hT.out, if_pos (.inr hlt)])
        clear hT
        go_enter Tryz.func111, Tryz.ntmps111
        go_wp2_with fail
        refine hN.out.mono ?_
        rintro e w1 ⟨rfl, hK, hF⟩
        obtain ⟨v1, k1, k2, k3, k4⟩ := id hK
        obtain ⟨hbl, a, c, rfl, -⟩ := id k2
        have c0 := cell_obj k1 0 (.slice a bs.length c) rfl
        have c1 := cell_obj k1 1 (.bool false) rfl
        have f1 := obj_frozen k1 1
        obtain ⟨ln, hln⟩ : ∃ ln, bs.length = ln := ⟨_, rfl⟩
        rw [hln] at c0 hlt hbl
        have hset : TR (w1.setCell ⟨g, 1, none⟩ (.bool true)) g K bs true ∧ Fr (fun b => b = g) w (w1.setCell ⟨g, 1, none⟩ (.bool true)) := by
          have hF0 : Fr (fun b => b = g) w1 (w1.setCell ⟨g, 1, none⟩ (.bool true)) := (Fr.refl (fun b => b = g) w1).setCell (p := ⟨g, 1, none⟩) (fun _ => rfl) _
          obtain ⟨v2, j1, j2, j3, j4⟩ := hK
          exact ⟨⟨v2, obj_set j1 1 (.bool true), j2.keep hF0 (fun b e => (j4 b e).2), j3, j4⟩, hF.trans hF0⟩
        have HSET := Lib.hid hset
        clear hset hK hF k1 k2 k3 k4 hln
        go_wp2_with fail
        go_ret
        rw [hT2.out]
        exact ⟨rfl, HSET.out⟩
      · have hT2 : Hid (R = (bS (bs.take k), (bs.drop k, false))) := Lib.hid (by rw [hT.out, if_neg (fun e => e.elim (fun e => by cases e) hlt)]; rfl)
        clear hT
        go_enter Tryz.func111, Tryz.ntmps111
        go_wp2_with fail
        refine hN.out.mono ?_
        rintro e w1 ⟨rfl, hK, hF⟩
        obtain ⟨v1, k1, k2, k3, k4⟩ := id hK
        obtain ⟨hbl, a, c, rfl, -⟩ := id k2
        have c0 := cell_obj k1 0 (.slice a bs.length c) rfl
        have c1 := cell_obj k1 1 (.bool false) rfl
        have f0 := obj_frozen k1 0
        have hcap := k3 _ _ _ rfl
        obtain ⟨ln, hln⟩ : ∃ ln, bs.length = ln := ⟨_, rfl⟩
        have HLN := Lib.hid hln
        have HK1 := Lib.hid k1; have HK2 := Lib.hid k2; have HK4 := Lib.hid k4
        rw [hln] at c0 hlt hbl hcap HK1 HK2 HK4
        have hkl : (k : Int) ≤ (ln : Int) := by omega
        have hk0 : (0 : Int) ≤ k := by omega
        have HF := Lib.hid hF
        have hstr := (Bs.take HK2.out (k := k) (by omega)).string
        rw [strOfNums_bS] at hstr
        have hpost : ∀ v' : Value, Bs w1 v' (bs.drop k) → (∀ a n c, v' = .slice a n c → n ≤ c) → (∀ b, v'.ownBlock = some b → (Value.slice a ln c).ownBlock = some b) →
            TR (w1.setCell ⟨g, 0, none⟩ v') g K (bs.drop k) false ∧ Fr (fun b => b = g) w (w1.setCell ⟨g, 0, none⟩ v') := fun v' hb hc ho => by
          have hF0 : Fr (fun b => b = g) w1 (w1.setCell ⟨g, 0, none⟩ v') := (Fr.refl (fun b => b = g) w1).setCell (p := ⟨g, 0, none⟩) (fun _ => rfl) _
          have h4 := HK4.out
          exact ⟨⟨v', obj_set HK1.out 0 v', hb.keep hF0 (fun b e => (h4 b (ho b e)).2), hc, fun b e => h4 b (ho b e)⟩, HF.out.trans hF0⟩
        have HPOST := Lib.hid hpost
        obtain ⟨sv, hsv⟩ : ∃ sv, bS (bs.take k) = sv := ⟨_, rfl⟩
        rw [hsv] at hstr hT2
        clear hK hF k1 k2 k3 k4 hln hpost hsv
        go_wp2_with fail
        · have hck : c = k := by assumption
          have hlk : ln = k := by omega
          go_ret
          rw [hT2.out]
          refine ⟨rfl, HPOST.out _ ?_ ?_ ?_⟩
          · have e0 : bs.drop k = [] := List.drop_eq_nil_of_le (by rw [HLN.out]; omega)
            rw [e0, show ln - k = 0 by omega]
            exact Bs.none' _ _ _
          · rintro a' n' c' e
            injection e with _ e2 e3
            omega
          · intro b e
            cases a with
            | none => cases e
            | some ad => exact e
        · go_ret
          rw [hT2.out]
          refine ⟨rfl, HPOST.out _ (HK2.out.drop HLN.out (by omega)) ?_ ?_⟩
          · rintro a' n' c' e
            injection e with _ e2 e3
            omega
          · intro b e
            cases a with
            | none => cases e
            | some ad =>
              have hb : (ad.add k).block = ad.block := by unfold Addr.add; split <;> rfl
              simp only [Option.map, Value.ownBlock, hb] at e ⊢
              exact e
end Go.Proofs.YtlniekobijcanaaGreat
namespace Go.Proofs.YtlniekobijcanaaGreat
open Go.RowKit Go.Maps
/-- A good's level and flow. -/
structure SR where
  free : Int
  held : Int
  picked : Int
  aside : Int
  received : Int
  returned : Int
  counted : Int
  came : Int
  shipped : Int
  scrapped : Int
  sent : Int
deriving DecidableEq
def SR.zero : SR := ⟨0, 0, 0, 0, 0, 0, 0, 0, 0, 0, 0⟩
def SR.cs (r : SR) : Array Value := #[.int .i64 r.free, .int .i64 r.held, .int .i64 r.picked, .int .i64 r.aside, .int .i64 r.received, .int .i64 r.returned, .int .i64 r.counted, .int .i64 r.came, .int .i64 r.shipped, .int .i64 r.scrapped, .int .i64 r.sent]
def SR.enc (r : SR) : Value := .agg r.cs
def SR.nums (r : SR) : List Int := [r.free, r.held, r.picked, r.aside, r.received, r.returned, r.counted, r.came, r.shipped, r.scrapped, r.sent]
/-- Is it a count? -/
def mayI (n : Int) : Bool := decide (0 ≤ n) && decide (n ≤ 1099511627776)
def flowI (n : Int) : Bool := decide (0 ≤ n) && decide (n ≤ 72057594037927936)
def SR.each (r : SR) : Bool := mayI r.free && mayI r.held && mayI r.picked && mayI r.aside && (flowI r.received && flowI r.returned && flowI r.came && flowI r.shipped && flowI r.scrapped && flowI r.sent)
def SR.sum (r : SR) : Int := r.free + r.held + r.picked + r.aside
def SR.right (r : SR) : Bool := r.each && mayI r.sum
def SR.flow (r : SR) : Int := r.received + r.returned + r.counted + r.came - r.shipped - r.scrapped - r.sent
def SR.bal (r : SR) : Bool := r.each && (decide (-576460752303423488 ≤ r.counted) && decide (r.counted ≤ 576460752303423488) && decide (r.sum = r.flow))
theorem mayI_iff {n : Int} : mayI n = true ↔ 0 ≤ n ∧ n ≤ 1099511627776 := by simp [mayI]
theorem flowI_iff {n : Int} : flowI n = true ↔ 0 ≤ n ∧ n ≤ 72057594037927936 := by simp [flowI]
/-- The numbers' bounds, written out. -/
structure SRb (r : SR) : Prop where
  a0 : 0 ≤ r.free ∧ r.free ≤ 1099511627776
  a1 : 0 ≤ r.held ∧ r.held ≤ 1099511627776
  a2 : 0 ≤ r.picked ∧ r.picked ≤ 1099511627776
  a3 : 0 ≤ r.aside ∧ r.aside ≤ 1099511627776
  b0 : 0 ≤ r.received ∧ r.received ≤ 72057594037927936
  b1 : 0 ≤ r.returned ∧ r.returned ≤ 72057594037927936
  b2 : 0 ≤ r.came ∧ r.came ≤ 72057594037927936
  b3 : 0 ≤ r.shipped ∧ r.shipped ≤ 72057594037927936
  b4 : 0 ≤ r.scrapped ∧ r.scrapped ≤ 72057594037927936
  b5 : 0 ≤ r.sent ∧ r.sent ≤ 72057594037927936
theorem SR.each_iff {r : SR} : r.each = true ↔ SRb r := by
  simp only [SR.each, Bool.and_eq_true, mayI_iff, flowI_iff]
  exact ⟨fun ⟨⟨⟨⟨a, b⟩, c⟩, d⟩, ⟨⟨⟨⟨e, f⟩, g⟩, h⟩, i⟩, j⟩ => ⟨a, b, c, d, e, f, g, h, i, j⟩, fun ⟨a, b, c, d, e, f, g, h, i, j⟩ => ⟨⟨⟨⟨a, b⟩, c⟩, d⟩, ⟨⟨⟨⟨e, f⟩, g⟩, h⟩, i⟩, j⟩⟩
/-- A good that may be in a stock. -/
structure SRok (r : SR) : Prop where
  b : SRb r
  sum : 0 ≤ r.sum ∧ r.sum ≤ 1099511627776
  bal : r.sum = r.flow
theorem SRok.counted {r : SR} (h : SRok r) : -576460752303423488 ≤ r.counted ∧ r.counted ≤ 576460752303423488 := by
  have h0 := h.bal
  unfold SR.sum SR.flow at h0
  obtain ⟨⟨a0, a1, a2, a3, b0, b1, b2, b3, b4, b5⟩, -, -⟩ := h
  omega
theorem SRok.right {r : SR} (h : SRok r) : r.right = true := by
  unfold SR.right
  rw [Bool.and_eq_true, SR.each_iff, mayI_iff]
  exact ⟨h.b, h.sum⟩
theorem SRok.balB {r : SR} (h : SRok r) : r.bal = true := by
  have h0 := h.counted
  unfold SR.bal
  rw [Bool.and_eq_true, SR.each_iff]
  refine ⟨h.b, ?_⟩
  simp [h0.1, h0.2, h.bal]
theorem SRok.of {r : SR} (h1 : r.right = true) (h2 : r.bal = true) : SRok r := by
  unfold SR.right at h1
  rw [Bool.and_eq_true, SR.each_iff, mayI_iff] at h1
  unfold SR.bal at h2
  simp only [Bool.and_eq_true, decide_eq_true_eq] at h2
  exact ⟨h1.1, h1.2, h2.2.2⟩
theorem SRok.ofR {r : SR} (h1 : r.right = true) (h2 : r.sum = r.flow) : SRok r := by
  unfold SR.right at h1
  rw [Bool.and_eq_true, SR.each_iff, mayI_iff] at h1
  exact ⟨h1.1, h1.2, h2⟩
theorem SRok.zero : SRok SR.zero := by
  refine ⟨⟨?_, ?_, ?_, ?_, ?_, ?_, ?_, ?_, ?_, ?_⟩, ?_, ?_⟩ <;> simp [SR.zero, SR.sum, SR.flow]
/-- A row's number, by its place. -/
def SR.get (r : SR) : Nat → Int
  | 0 => r.free
  | 1 => r.held
  | 2 => r.picked
  | 3 => r.aside
  | 4 => r.received
  | 5 => r.returned
  | 6 => r.counted
  | 7 => r.came
  | 8 => r.shipped
  | 9 => r.scrapped
  | _ => r.sent
def SR.set (r : SR) (i : Nat) (n : Int) : SR :=
  match i with
  | 0 => { r with free := n }
  | 1 => { r with held := n }
  | 2 => { r with picked := n }
  | 3 => { r with aside := n }
  | 4 => { r with received := n }
  | 5 => { r with returned := n }
  | 6 => { r with counted := n }
  | 7 => { r with came := n }
  | 8 => { r with shipped := n }
  | 9 => { r with scrapped := n }
  | _ => { r with sent := n }
def SR.add (r : SR) (o : Option Nat) (n : Int) : SR := match o with
  | none => r
  | some i => r.set i (r.get i + n)
theorem SR.cs_get (r : SR) {i : Nat} (h : i < 11) : r.cs[i]? = some (.int .i64 (r.get i)) := by
  match i, h with
  | 0, _ => rfl
  | 1, _ => rfl
  | 2, _ => rfl
  | 3, _ => rfl
  | 4, _ => rfl
  | 5, _ => rfl
  | 6, _ => rfl
  | 7, _ => rfl
  | 8, _ => rfl
  | 9, _ => rfl
  | 10, _ => rfl
theorem SR.cs_set (r : SR) {i : Nat} (h : i < 11) (n : Int) : r.cs.setIfInBounds i (.int .i64 n) = (r.set i n).cs := by
  match i, h with
  | 0, _ => rfl
  | 1, _ => rfl
  | 2, _ => rfl
  | 3, _ => rfl
  | 4, _ => rfl
  | 5, _ => rfl
  | 6, _ => rfl
  | 7, _ => rfl
  | 8, _ => rfl
  | 9, _ => rfl
  | 10, _ => rfl
theorem SR.nums_get (r : SR) {i : Nat} (h : i < 11) : r.nums[i]? = some (r.get i) := by
  match i, h with
  | 0, _ => rfl
  | 1, _ => rfl
  | 2, _ => rfl
  | 3, _ => rfl
  | 4, _ => rfl
  | 5, _ => rfl
  | 6, _ => rfl
  | 7, _ => rfl
  | 8, _ => rfl
  | 9, _ => rfl
  | 10, _ => rfl
/-- Where a kind takes from, where it goes, which flow it is. -/
def roadF (k : Int) : Option Nat × Option Nat × Option Nat :=
  if k = 1 then (none, some 0, some 4) else
  if k = 2 then (some 0, some 1, none) else
  if k = 3 then (some 1, some 0, none) else
  if k = 4 then (some 1, some 2, none) else
  if k = 5 then (some 2, some 1, none) else
  if k = 6 then (some 2, none, some 8) else
  if k = 7 then (none, some 3, some 5) else
  if k = 8 then (some 3, some 0, none) else
  if k = 9 then (some 3, none, some 9) else
  if k = 10 then (some 0, none, some 10) else
  if k = 11 then (none, some 0, some 7) else (none, none, none)
theorem roadF_lt (k : Int) : (∀ i, (roadF k).1 = some i → i < 4) ∧ (∀ i, (roadF k).2.1 = some i → i < 4) ∧ (∀ i, (roadF k).2.2 = some i → 4 ≤ i ∧ i ≠ 6 ∧ i < 11) := by
  obtain ⟨R, hR⟩ : ∃ R, roadF k = R := ⟨_, rfl⟩
  rw [hR]
  unfold roadF at hR
  by_cases h1 : k = 1
  · rw [if_pos h1] at hR; subst hR; simp
  rw [if_neg h1] at hR
  by_cases h2 : k = 2
  · rw [if_pos h2] at hR; subst hR; simp
  rw [if_neg h2] at hR
  by_cases h3 : k = 3
  · rw [if_pos h3] at hR; subst hR; simp
  rw [if_neg h3] at hR
  by_cases h4 : k = 4
  · rw [if_pos h4] at hR; subst hR; simp
  rw [if_neg h4] at hR
  by_cases h5 : k = 5
  · rw [if_pos h5] at hR; subst hR; simp
  rw [if_neg h5] at hR
  by_cases h6 : k = 6
  · rw [if_pos h6] at hR; subst hR; simp
  rw [if_neg h6] at hR
  by_cases h7 : k = 7
  · rw [if_pos h7] at hR; subst hR; simp
  rw [if_neg h7] at hR
  by_cases h8 : k = 8
  · rw [if_pos h8] at hR; subst hR; simp
  rw [if_neg h8] at hR
  by_cases h9 : k = 9
  · rw [if_pos h9] at hR; subst hR; simp
  rw [if_neg h9] at hR
  by_cases h10 : k = 10
  · rw [if_pos h10] at hR; subst hR; simp
  rw [if_neg h10] at hR
  by_cases h11 : k = 11
  · rw [if_pos h11] at hR; subst hR; simp
  rw [if_neg h11] at hR
  subst hR; simp
def SR.move (r : SR) (k n : Int) : SR := ((r.add (roadF k).1 (-n)).add (roadF k).2.1 n).add (roadF k).2.2 n
/-- What is done keeps a good in balance. -/
theorem SR.move_bal {r : SR} (h : r.sum = r.flow) (k n : Int) : (r.move k n).sum = (r.move k n).flow := by
  unfold SR.sum SR.flow at h ⊢
  obtain ⟨R, hR⟩ : ∃ R, roadF k = R := ⟨_, rfl⟩
  unfold SR.move
  rw [hR]
  unfold roadF at hR
  by_cases h1 : k = 1
  · rw [if_pos h1] at hR; subst hR; simp only [SR.add, SR.set, SR.get]; omega
  rw [if_neg h1] at hR
  by_cases h2 : k = 2
  · rw [if_pos h2] at hR; subst hR; simp only [SR.add, SR.set, SR.get]; omega
  rw [if_neg h2] at hR
  by_cases h3 : k = 3
  · rw [if_pos h3] at hR; subst hR; simp only [SR.add, SR.set, SR.get]; omega
  rw [if_neg h3] at hR
  by_cases h4 : k = 4
  · rw [if_pos h4] at hR; subst hR; simp only [SR.add, SR.set, SR.get]; omega
  rw [if_neg h4] at hR
  by_cases h5 : k = 5
  · rw [if_pos h5] at hR; subst hR; simp only [SR.add, SR.set, SR.get]; omega
  rw [if_neg h5] at hR
  by_cases h6 : k = 6
  · rw [if_pos h6] at hR; subst hR; simp only [SR.add, SR.set, SR.get]; omega
  rw [if_neg h6] at hR
  by_cases h7 : k = 7
  · rw [if_pos h7] at hR; subst hR; simp only [SR.add, SR.set, SR.get]; omega
  rw [if_neg h7] at hR
  by_cases h8 : k = 8
  · rw [if_pos h8] at hR; subst hR; simp only [SR.add, SR.set, SR.get]; omega
  rw [if_neg h8] at hR
  by_cases h9 : k = 9
  · rw [if_pos h9] at hR; subst hR; simp only [SR.add, SR.set, SR.get]; omega
  rw [if_neg h9] at hR
  by_cases h10 : k = 10
  · rw [if_pos h10] at hR; subst hR; simp only [SR.add, SR.set, SR.get]; omega
  rw [if_neg h10] at hR
  by_cases h11 : k = 11
  · rw [if_pos h11] at hR; subst hR; simp only [SR.add, SR.set, SR.get]; omega
  rw [if_neg h11] at hR
  subst hR
  exact h
abbrev Stk := List (Str × SR)
def rowAt (A : Stk) (g : Str) : SR := (getS A g).getD SR.zero
abbrev Its := List (Str × Int)
def goodC (c : UInt8) : Bool := (decide (97 ≤ c.toNat) && decide (c.toNat ≤ 122)) || (decide (48 ≤ c.toNat) && decide (c.toNat ≤ 57)) || decide (c.toNat = 45)
def goodB (s : Str) : Bool := s.all goodC && (decide (0 < s.length) && decide (s.length ≤ 16))
def itsOk : Str → Its → Bool
  | _, [] => true
  | last, p :: r => goodB p.1 && decide (1 ≤ p.2) && mayI p.2 && decide (last < p.1) && itsOk p.1 r
def mayL (l : Its) : Bool := itsOk [] l && decide (l.length ≤ 16)
def doMay (A : Stk) (k : Int) (l : Its) : Int := match (roadF k).1 with
  | none => 0
  | some i => if l.any (fun p => (getS A p.1).isNone) = true then 71 else if l.any (fun p => decide ((rowAt A p.1).get i < p.2)) = true then 51 else 0
def doFold (k : Int) : Stk → Its → Option Stk
  | A, [] => some A
  | A, p :: r => if ((rowAt A p.1).move k p.2).right = true then doFold k (putS ktS.lt A p.1 ((rowAt A p.1).move k p.2)) r else none
def doS (A : Stk) (k : Int) (l : Its) : Int × Stk :=
  if k < 1 ∨ 11 < k then (1, A) else if mayL l = false then (60, A) else if doMay A k l ≠ 0 then (doMay A k l, A) else
  match doFold k A l with
  | none => (50, A)
  | some B => if 64 < B.length then (2, A) else (0, B)
/-- How many more there are, what is wrong, and the stock behind it. -/
def countS (A : Stk) (g : Str) (n : Int) : Int × Int × Stk :=
  if mayI n = false then (0, 1, A) else match getS A g with
  | none => (0, 71, A)
  | some r => if n < r.held then (0, 70, A) else
    let r' := { r with free := r.free + (n - r.held - r.free), counted := r.counted + (n - r.held - r.free) }
    if r'.right = true then (n - r.held - r.free, 0, putS ktS.lt A g r') else (0, 50, A)
def offerS (A : Stk) (l : Its) : Its := l.filterMap fun p => if 0 < min p.2 (rowAt A p.1).free then some (p.1, min p.2 (rowAt A p.1).free) else none
/-- A stock that may be. -/
structure SOk (A : Stk) : Prop where
  rise : RiseS A
  good : ∀ p ∈ A, goodB p.1 = true
  row : ∀ p ∈ A, SRok p.2
  len : A.length ≤ 64
theorem getS_memS {ν : Type} {A : List (Str × ν)} {g : Str} {v : ν} (h : getS A g = some v) : (g, v) ∈ A := by
  induction A with
  | nil => cases h
  | cons p r ih =>
    simp only [getS] at h
    by_cases e : p.1 = g
    · rw [if_pos e] at h
      cases h
      subst e
      simp
    · rw [if_neg e] at h
      exact List.mem_cons_of_mem _ (ih h)
theorem SOk.at_ {A : Stk} (h : SOk A) (g : Str) : SRok (rowAt A g) := by
  show SRok ((getS A g).getD SR.zero)
  cases e : getS A g with
  | none => exact SRok.zero
  | some v => exact h.row _ (getS_memS e)
end Go.Proofs.YtlniekobijcanaaGreat
namespace Go.Proofs.YtlniekobijcanaaGreat
open Go.RowKit Go.Maps
theorem good_pos {s : Str} (h : goodB s = true) : ([] : Str) < s := by
  cases s with
  | nil => simp [goodB] at h
  | cons a r => exact List.nil_lt_cons a r
theorem kMay (w : World) (n : Int) : Calls Tryz.prog 85 #[.int .i64 n] w fun e w' => e = .returned (.bool (mayI n)) ∧ w = w' := by
  unfold mayI
  by_cases h1 : 0 ≤ n <;> by_cases h2 : n ≤ 1099511627776
  all_goals
    simp only [h1, h2, decide_true, decide_false, Bool.and_true, Bool.and_false]
    go_enter Tryz.func85, Tryz.ntmps85
    go_wp2
    go_ret
    exact ⟨rfl, rfl⟩
end Go.Proofs.YtlniekobijcanaaGreat
namespace Go.Proofs.YtlniekobijcanaaGreat
open Go.RowKit
variable {α : Type}
/-- What a caller keeps between two rounds abides whatever the iterator, and the loop's own record, do. -/
def Ab (B : Nat) (J : World → Prop) : Prop := ∀ W W', J W → Fa B W W' → J W'
/-- A round of loop l: the yield is taken up as a round, which ends in R. -/
abbrev Yd (l : Nat) (args : Array Value) (W : World) (R : Ending → World → Prop) : Prop := YieldAt Fence.wide 0 Tryz.prog l args W R
/-- The blocks that rounds have made: C, and what has been made from W to W'. -/
def CC (C : Nat → Prop) (W W' : World) (b : Nat) : Prop := C b ∨ (W.heap.size ≤ b ∧ b < W'.heap.size)
/-- THE ITERATOR gf (with what it has captured, lb) GIVES X, one by one, or a part of it if a round says no more; between rounds it reads no block that the rounds may turn (S: the old blocks that they may turn; C: those that rounds have made). -/
def ItX (gf : Nat) (lb : Array Value) (encs : α → Array Value) (X : List α) (S : Nat → Prop) (w : World) : Prop :=
  ∀ (l : Nat) (S' : Nat → Prop) (J Jx : Nat → (Nat → Prop) → World → Prop) (W : World), Below w.heap.size w W → (∀ b, S' b → b < W.heap.size ∧ (b < w.heap.size → S b)) → (∀ k C, Ab W.heap.size (J k C)) →
    (∀ k x C W1, X[k]? = some x → J k C W1 → Yd l (encs x) W1 fun e W' =>
      (e = .returned (.bool true) ∧ J (k + 1) (CC C W1 W') W' ∧ Fr (fun b => S' b ∨ C b) W1 W') ∨ (e = .returned (.bool false) ∧ Jx (k + 1) (CC C W1 W') W' ∧ Fr (fun b => S' b ∨ C b) W1 W')) →
    (∀ k C, Ab W.heap.size (Jx k C)) →
    J 0 (fun _ => False) W →
    Calls Tryz.prog gf (#[.func (.yield l) #[] #[]] ++ lb) W fun e W' => (∃ v, e = .returned v) ∧ ((∃ C, J X.length C W') ∨ ∃ k C, k ≤ X.length ∧ Jx k C W')
theorem ItX.mono {gf : Nat} {lb : Array Value} {encs : α → Array Value} {X : List α} {S S0 : Nat → Prop} {w : World} (h : ItX gf lb encs X S w) (hS : ∀ b, S0 b → S b) : ItX gf lb encs X S0 w :=
  fun l S' J Jx W hW hS' => h l S' J Jx W hW (fun b hb => ⟨(hS' b hb).1, fun hl => hS b ((hS' b hb).2 hl)⟩)
/-- How a round's body ends: C0: what the rounds had made when this one began, in W0. -/
def bodyEnd (S C0 : Nat → Prop) (W0 : World) (I : Nat → (Nat → Prop) → World → Prop) (Ix : Code → Nat → (Nat → Prop) → World → Prop) (k : Nat) (W : World) : Exit → Act → World → Prop
  | .normal, _, W' => Fr (fun b => S b ∨ CC C0 W0 W b) W W' ∧ I k (CC C0 W0 W') W'
  | .ret, _, W' => Fr (fun b => S b ∨ CC C0 W0 W b) W W' ∧ Ix .ret k (CC C0 W0 W') W'
  | .exit id, _, W' => Fr (fun b => S b ∨ CC C0 W0 W b) W W' ∧ Ix (.exit id) k (CC C0 W0 W') W'
  | .goto t, _, W' => Fr (fun b => S b ∨ CC C0 W0 W b) W W' ∧ Ix (.goto t) k (CC C0 W0 W') W'
  | .panic _, _, _ => False
  | .outgrown, _, _ => False
/-- Behind the assignment to the loop's variables: what the body owes. -/
def Took (w : World) (S C : Nat → Prop) (I : Nat → (Nat → Prop) → World → Prop) (Ix : Code → Nat → (Nat → Prop) → World → Prop) (k l : Nat) (W : World) (body : Code) (a' : Act) (W' : World) : Prop :=
  Fr (fun b => S b ∨ C b) W W' ∧ I k C W' ∧ ∀ Wb, I k C Wb → Fr S w Wb → Fa w.heap.size W' Wb → W.heap.size ≤ Wb.heap.size → w.heap.size ≤ W.heap.size → (∀ b, C b → w.heap.size ≤ b) → (∃ r, Wb.heap[l]? = some (.loop r)) →
    body.wpIn (Fence.wide.inRound l) 0 Tryz.prog (bodyEnd S C W I Ix (k + 1) Wb) a' Wb
theorem Took.mk {w : World} {S C : Nat → Prop} {I : Nat → (Nat → Prop) → World → Prop} {Ix : Code → Nat → (Nat → Prop) → World → Prop} {k l : Nat} {W : World} {body : Code} {a' : Act} {W' : World}
    (h1 : Fr (fun b => S b ∨ C b) W W') (h2 : I k C W') (h3 : ∀ Wb, I k C Wb → Fr S w Wb → Fa w.heap.size W' Wb → W.heap.size ≤ Wb.heap.size → w.heap.size ≤ W.heap.size → (∀ b, C b → w.heap.size ≤ b) → (∃ r, Wb.heap[l]? = some (.loop r)) →
    body.wpIn (Fence.wide.inRound l) 0 Tryz.prog (bodyEnd S C W I Ix (k + 1) Wb) a' Wb) : Took w S C I Ix k l W body a' W' := ⟨h1, h2, h3⟩
theorem frAlloc {B : Nat} {w : World} (o : Obj) : Fa B w (w.alloc o) := (Fr.refl _ _).alloc o
theorem frPut {B : Nat} {w : World} {l : Nat} {o : Obj} (o' : Obj) (hB : B ≤ l) (hl : w.heap[l]? = some o) (ho : auxObj o = true) : Fa B w (w.putObj l o') := (Fr.refl _ _).putObj (fun _ => ⟨hB, o, hl, ho⟩) o'
theorem Ab.fr {S : Nat → Prop} {w : World} {B : Nat} (hB : w.heap.size ≤ B) : Ab B (fun W => Fr S w W) := fun _ _ h hf => Fa.old hf h hB
theorem Ab.and {B : Nat} {J J' : World → Prop} (h : Ab B J) (h' : Ab B J') : Ab B (fun W => J W ∧ J' W) := fun W W' hs hf => ⟨h W W' hs.1 hf, h' W W' hs.2 hf⟩
theorem Fa.up {B B' : Nat} {W W' : World} (h : Fa B' W W') (hB : B ≤ B') : Fa B W W' := Fr.mono h fun _ _ ⟨a, b⟩ => ⟨Nat.le_trans hB a, b⟩
/-- **A range over an iterator that gives X**, at the outermost level of a function: the loop's variables may be boxed (W': behind the assignment; Wb: where the body begins). C: the blocks that the rounds have made. -/
theorem rangeX {g : Operand} {ps : Array Tmp} {assign body : Code} {Q : Exit → Act → World → Prop} {a : Act} {w w0 : World} {n : Nat}
    {gf : Nat} {lb : Array Value} (hg : a.eval g = .func (.func gf) #[] lb) (eg : ∀ args w, (callFunc gf args).run Tryz.prog w = .ok (.enter gf args) w)
    {encs : α → Array Value} {X : List α} {S : Nat → Prop} (hseq : ItX gf lb encs X S w0) (hb0 : Below w0.heap.size w0 w) (hS : ∀ b, S b → b < w.heap.size) (hps : ∀ x, (encs x).size = ps.size)
    (I : Nat → (Nat → Prop) → World → Prop) (Ix : Code → Nat → (Nat → Prop) → World → Prop) (hI : ∀ k C, Ab w.heap.size (I k C)) (hIx : ∀ c k C, Ab w.heap.size (Ix c k C)) (h0 : I 0 (fun _ => False) w)
    (hround : ∀ (l k : Nat) (x : α) (C : Nat → Prop) (W : World), X[k]? = some x → w.heap.size ≤ l → I k C W → Fr S w W →
      assign.wpIn (Fence.wide.inRound l) 0 Tryz.prog (Exit.then (Took w S C I Ix k l W body) (fun _ _ _ => False)) { tmps := (ps.zip (encs x)).foldl (fun t (p, v) => t.setIfInBounds p v) a.tmps, defers := [] } W)
    (hdone : ∀ (D : Nat) (C : Nat → Prop) (W : World), w.heap.size ≤ D → I X.length C W → Fr S w W → W.heap[D]? = some (.deferred (some [])) → Q .normal { a with defers := { target := .collected D, args := #[] } :: a.defers } W)
    (hstop : ∀ (D : Nat) (c : Code) (k : Nat) (C : Nat → Prop) (W : World), w.heap.size ≤ D → k ≤ X.length → Ix c k C W → Fr S w W → W.heap[D]? = some (.deferred (some [])) →
      c.wpIn Fence.wide n Tryz.prog Q { a with defers := { target := .collected D, args := #[] } :: a.defers } W) :
    (Code.rangeFunc g ps assign body).wpIn Fence.wide n Tryz.prog Q a w := by
  refine wpIn_rangeFunc ?_
  intro fn hfn
  obtain ⟨rec, hrec⟩ : ∃ rec : LoopState → Option Code → Loop, rec = fun st pe => { state := st, pending := pe, fn, tmps := a.tmps, params := ps, assign, body, defers := w.heap.size } := ⟨_, rfl⟩
  obtain ⟨W1, hW1⟩ : ∃ W1, (w.alloc (.deferred (some []))).alloc (.loop (rec .ready none)) = W1 := ⟨_, rfl⟩
  have hs1 : W1.heap.size = w.heap.size + 2 := by rw [← hW1]; simp
  have hL1 : W1.heap[w.heap.size + 1]? = some (.loop (rec .ready none)) := by
    rw [← hW1]; have := World.alloc_heap_new (w.alloc (.deferred (some []))) (.loop (rec .ready none)); rwa [World.size_alloc] at this
  have hD1 : W1.heap[w.heap.size]? = some (.deferred (some [])) := by
    rw [← hW1]; exact (Below.heap_alloc _ _ _ (by simp)).trans (World.alloc_heap_new w _)
  have hf1 : Fa w.heap.size w W1 := by rw [← hW1]; exact ((Fr.refl _ _).alloc _).alloc _
  have hr1 : Fr S w W1 := by rw [← hW1]; exact ((Fr.refl _ _).alloc _).alloc _
  have hb1 : Below w0.heap.size w0 W1 := by
    rw [← hW1]; exact hb0.trans ((((Below.refl _ w).alloc (Nat.le_refl _) _).alloc (by simp) _).mono hb0.size)
  refine ⟨w.heap.size + 1, [{ target := .collected w.heap.size, args := #[] }], W1, { target := .fn (.func gf) lb, args := #[.func (.yield (w.heap.size + 1)) #[] #[]] }, W1, gf,
    #[.func (.yield (w.heap.size + 1)) #[] #[]] ++ lb, W1, ?_, ?_, fun _ _ => trivial, ?_, (fun h => by cases h), ?_⟩
  · rw [← hW1, hrec]; exact run_enterLoop_outer _ _ _ _ _
  · simp only [resolve, hg]
    simp [go_sem]
  · simp [invoke, go_sem, eg]
  have hB : w.heap.size ≤ W1.heap.size := by omega
  have hDL : ∀ {st pe A B}, A.heap[w.heap.size + 1]? = some (.loop (rec st pe)) → A.heap[w.heap.size]? = some (.deferred (some [])) → Fa W1.heap.size A B →
      B.heap[w.heap.size + 1]? = some (.loop (rec st pe)) ∧ B.heap[w.heap.size]? = some (.deferred (some [])) := fun hl hd hf =>
    ⟨hf.at_ hl (fun hx => by have := hx.1; omega), hf.at_ hd (fun hx => by have := hx.1; omega)⟩
  refine callsIn_wide.2 ((hseq (w.heap.size + 1) (fun b => S b ∨ b = w.heap.size + 1)
    (fun k C W => I k C W ∧ Fr S w W ∧ (∀ b, C b → w.heap.size + 2 ≤ b) ∧ W.heap[w.heap.size + 1]? = some (.loop (rec .ready none)) ∧ W.heap[w.heap.size]? = some (.deferred (some [])))
    (fun k C W => ∃ c, Ix c k C W ∧ Fr S w W ∧ W.heap[w.heap.size + 1]? = some (.loop (rec .done (some c))) ∧ W.heap[w.heap.size]? = some (.deferred (some [])))
    W1 hb1 ?_ ?_ ?_ ?_ ⟨hI 0 _ _ _ h0 hf1, hr1, fun _ h => h.elim, hL1, hD1⟩).mono ?_)
  · rintro b (h | rfl)
    · have := hS b h
      exact ⟨by omega, fun _ => h⟩
    · exact ⟨by omega, fun h => by have := hb0.size; omega⟩
  · rintro k C A B ⟨hi, hr, hC, hl, hd⟩ hf
    obtain ⟨hl', hd'⟩ := hDL hl hd hf
    exact ⟨hI k C _ _ hi (Fa.up hf hB), Fa.old hf hr hB, hC, hl', hd'⟩
  · -- a round
    rintro k x C W hx ⟨hi, hr, hC, hl, hd⟩
    have hy := run_yield (P := Tryz.prog) (args := encs x) hl (by rw [hrec]; exact hps x)
    rw [hrec] at hy
    have hltW : w.heap.size + 1 < W.heap.size := (Array.getElem?_eq_some_iff.1 hl).1
    have nS : ∀ (A B : World), W.heap.size ≤ A.heap.size → ¬ (S (w.heap.size + 1) ∨ CC C A B (w.heap.size + 1)) ∧ ¬ (S w.heap.size ∨ CC C A B w.heap.size) := fun A B hA => by
      constructor
      · rintro (e | e | e)
        · have := hS _ e; omega
        · have := hC _ e; omega
        · omega
      · rintro (e | e | e)
        · have := hS _ e; omega
        · have := hC _ e; omega
        · omega
    refine ⟨fn, _, assign, body, hy, roundIn_of_wpIn hfn (wpIn_mono (hround _ k x C W hx (by omega) hi hr) ?_)⟩
    rintro e0 a' Wa h0
    cases e0 with
    | normal => ?_
    | _ => exact h0
    obtain ⟨hra, hia, hbody⟩ := h0
    have hla := hra.at_ hl (fun e => e.elim (fun e => by have := hS _ e; omega) (fun e => by have := hC _ e; omega))
    have hda := hra.at_ hd (fun e => e.elim (fun e => by have := hS _ e; omega) (fun e => by have := hC _ e; omega))
    refine ⟨_, run_beginRound hla (by rw [hrec]), ?_⟩
    obtain ⟨Wb, hWb⟩ : ∃ Wb, Wa.putObj (w.heap.size + 1) (.loop { rec .ready none with state := .busy }) = Wb := ⟨_, rfl⟩
    rw [hWb]
    have hlt : w.heap.size + 1 < Wa.heap.size := (Array.getElem?_eq_some_iff.1 hla).1
    have hszb : Wb.heap.size = Wa.heap.size := by rw [← hWb]; simp
    have hlb : Wb.heap[w.heap.size + 1]? = some (.loop { rec .ready none with state := .busy }) := by rw [← hWb]; exact World.putObj_heap_same hlt
    have hdb : Wb.heap[w.heap.size]? = some (.deferred (some [])) := by rw [← hWb]; exact (World.putObj_heap_other (by omega)).trans hda
    have hfb : Fa w.heap.size Wa Wb := by rw [← hWb]; exact frPut _ (by omega) hla rfl
    have hra' : Fr S w Wa := hr.trans' hra (fun b hb e => e.elim id (fun e => by have := hC _ e; omega))
    have hrb : Fr S w Wb := Fa.old hfb hra' (Nat.le_refl _)
    have hrW : Fr (fun b => (S b ∨ b = w.heap.size + 1) ∨ C b) W Wb := by
      rw [← hWb]; exact (hra.mono (fun b _ h => h.elim (fun h => .inl (.inl h)) .inr)).putObj (fun _ => .inl (.inr rfl)) _
    have hszW : W.heap.size ≤ Wb.heap.size := by rw [hszb]; exact hra.size
    refine wpIn_mono (hbody Wb (hI k C _ _ hia hfb) hrb hfb hszW hr.size (fun b e => by have := hC b e; omega) ⟨_, hlb⟩) ?_
    have fin : ∀ (jump : Option Code) (W3 : World), Fr (fun b => S b ∨ CC C W Wb b) Wb W3 →
        (Instr.endRound (w.heap.size + 1) jump).run Tryz.prog W3 = .ok (.bool jump.isNone) (W3.putObj (w.heap.size + 1) (.loop (rec (if jump.isNone then .ready else .done) jump))) ∧
        Fa w.heap.size W3 (W3.putObj (w.heap.size + 1) (.loop (rec (if jump.isNone then .ready else .done) jump))) ∧
        Fr S w (W3.putObj (w.heap.size + 1) (.loop (rec (if jump.isNone then .ready else .done) jump))) ∧
        Fr (fun b => (S b ∨ b = w.heap.size + 1) ∨ C b) W (W3.putObj (w.heap.size + 1) (.loop (rec (if jump.isNone then .ready else .done) jump))) ∧
        (∀ b, CC C W W3 b → w.heap.size + 2 ≤ b) ∧ CC C W (W3.putObj (w.heap.size + 1) (.loop (rec (if jump.isNone then .ready else .done) jump))) = CC C W W3 ∧
        (W3.putObj (w.heap.size + 1) (.loop (rec (if jump.isNone then .ready else .done) jump))).heap[w.heap.size + 1]? = some (.loop (rec (if jump.isNone then .ready else .done) jump)) ∧
        (W3.putObj (w.heap.size + 1) (.loop (rec (if jump.isNone then .ready else .done) jump))).heap[w.heap.size]? = some (.deferred (some [])) := fun jump W3 h3 => by
      have hn := nS W Wb (Nat.le_refl _)
      have hl3 := h3.at_ hlb hn.1
      have hd3 := h3.at_ hdb hn.2
      have he := run_endRound (P := Tryz.prog) jump hl3
      rw [hrec] at he ⊢
      refine ⟨he, frPut _ (by omega) hl3 rfl, ?_, ?_, ?_, ?_, World.putObj_heap_same (Array.getElem?_eq_some_iff.1 hl3).1, (World.putObj_heap_other (by omega)).trans hd3⟩
      · refine (hrb.trans' h3 ?_).putObj (fun h => by omega) _
        rintro b hb (e | e | e)
        · exact e
        · have := hC _ e; omega
        · omega
      · refine (hrW.trans' h3 ?_).putObj (fun _ => .inl (.inr rfl)) _
        rintro b hb (e | e | e)
        · exact .inl (.inl e)
        · exact .inr e
        · omega
      · rintro b (e | e)
        · exact hC _ e
        · omega
      · funext b; simp [CC]
    rintro e a3 W3 hp
    cases e with
    | normal =>
      obtain ⟨h3, hi3⟩ := hp
      obtain ⟨e1, e2, e3, e4, e7, e8, e5, e6⟩ := fin none W3 h3
      exact ⟨_, _, e1, .inl ⟨rfl, ⟨by rw [e8]; exact hI _ _ _ _ hi3 e2, e3, by rw [e8]; exact e7, e5, e6⟩, e4⟩⟩
    | ret =>
      obtain ⟨h3, hi3⟩ := hp
      obtain ⟨e1, e2, e3, e4, e7, e8, e5, e6⟩ := fin (some .ret) W3 h3
      exact ⟨_, _, e1, .inr ⟨rfl, ⟨.ret, by rw [e8]; exact hIx _ _ _ _ _ hi3 e2, e3, e5, e6⟩, e4⟩⟩
    | exit id =>
      obtain ⟨h3, hi3⟩ := hp
      obtain ⟨e1, e2, e3, e4, e7, e8, e5, e6⟩ := fin (some (.exit id)) W3 h3
      exact ⟨_, _, e1, .inr ⟨rfl, ⟨.exit id, by rw [e8]; exact hIx _ _ _ _ _ hi3 e2, e3, e5, e6⟩, e4⟩⟩
    | goto t =>
      obtain ⟨h3, hi3⟩ := hp
      obtain ⟨e1, e2, e3, e4, e7, e8, e5, e6⟩ := fin (some (.goto t)) W3 h3
      exact ⟨_, _, e1, .inr ⟨rfl, ⟨.goto t, by rw [e8]; exact hIx _ _ _ _ _ hi3 e2, e3, e5, e6⟩, e4⟩⟩
    | panic ch => exact hp.elim
    | outgrown => exact hp.elim
  · rintro k C A B ⟨c, hi, hr, hl, hd⟩ hf
    obtain ⟨hl', hd'⟩ := hDL hl hd hf
    exact ⟨c, hIx c k C _ _ hi (Fa.up hf hB), Fa.old hf hr hB, hl', hd'⟩
  · -- behind the iterator
    rintro e W2 ⟨⟨v, rfl⟩, (⟨C, hi, hr, _, hl, hd⟩ | ⟨k, C, hk, c, hi, hr, hl, hd⟩)⟩
    · have he := run_endLoop (P := Tryz.prog) hl (by rw [hrec]; simp)
      rw [hrec] at he
      exact ⟨none, _, he, hdone _ C _ (Nat.le_refl _) (hI _ _ _ _ hi (frPut _ (by omega) hl rfl)) (hr.putObj (fun h => by omega) _) ((World.putObj_heap_other (by omega)).trans hd)⟩
    · have he := run_endLoop (P := Tryz.prog) hl (by rw [hrec]; simp)
      rw [hrec] at he
      exact ⟨some c, _, he, hstop _ c k C _ (Nat.le_refl _) hk (hIx c k C _ _ hi (frPut _ (by omega) hl rfl)) (hr.putObj (fun h => by omega) _) ((World.putObj_heap_other (by omega)).trans hd)⟩
def ZI (_ : Nat) (_ : Nat → Prop) (_ : World) : Prop := True
def ZX (_ : Code) (_ : Nat) (_ : Nat → Prop) (_ : World) : Prop := False
theorem boxed_below {B : Nat} {w w' : World} {b : Nat} {t : TypeId} {v : Value} (h : Boxed w b t v) (hb : Below B w w') (h1 : b < B) : Boxed w' b t v := (hb.block b h1).trans h
def encP (p : Int × Int) : Array Value := #[.int .i64 p.1, .int .i64 p.2]
theorem row_slice {w : World} {base : Nat} {e : TypeId} {size n : Nat} {v : Value} {xs : List Value} (h : w.ownsRow base e size v n xs) : ∃ a c, v = .slice a n c := by
  rcases h.2 with ⟨e1, e2⟩ | ⟨_, _, _, e1, _⟩
  · exact ⟨_, _, by rw [e1, e2]⟩
  · exact ⟨_, _, e1⟩
theorem row_addr {w : World} {base : Nat} {e : TypeId} {size n c : Nat} {a : Option Addr} {xs : List Value} (h : w.ownsRow base e size (.slice a n c) n xs) (hn : 0 < n) : ∃ g, a = some ⟨g, 0, none⟩ ∧ base ≤ g ∧ g < w.heap.size := by
  obtain ⟨g, c', e1, h1, h2⟩ := h.form hn
  injection e1 with e1
  exact ⟨g, e1, h1, h2⟩
end Go.Proofs.YtlniekobijcanaaGreat
namespace Go.Proofs.YtlniekobijcanaaGreat
open Go.RowKit Go.Maps
/-- A slice of items. -/
def Il (w : World) (v : Value) (L : Its) : Prop := L.length ≤ 9223372036854775807 ∧ ∃ (a : Option Addr) (c : Nat), v = .slice a L.length c ∧ ∀ (i : Nat) (p : Str × Int), L[i]? = some p → okS p.1 ∧ okI p.2 ∧
  ∃ ad, a = some ad ∧ w.cell? (ad.add (i * 2)) = some (vS p.1) ∧ w.cell? ⟨(ad.add (i * 2)).block, (ad.add (i * 2)).off + 1, none⟩ = some (.int .i64 p.2)
theorem Il.keep {S : Nat → Prop} {w w' : World} {v : Value} {L : Its} (h : Il w v L) (hf : Fr S w w') (hS : L ≠ [] → ∀ b, v.ownBlock = some b → ¬ S b) : Il w' v L := by
  obtain ⟨h0, a, c, rfl, h1⟩ := h
  refine ⟨h0, a, c, rfl, fun i p hp => ?_⟩
  obtain ⟨b1, b2, ad, rfl, c0, c1⟩ := h1 i p hp
  have hb := add_block ad (i * 2)
  have hne : L ≠ [] := fun e => by rw [e] at hp; simp at hp
  exact ⟨b1, b2, ad, rfl, hf.cell c0 (fun e => hS hne ad.block rfl (hb ▸ e)), hf.cell c1 (fun e => hS hne ad.block rfl (hb ▸ e))⟩
theorem Il.fr {S : Nat → Prop} {w w' : World} {v : Value} {L : Its} (h : Il w v L) (hf : Fr S w w') (hS : ∀ b, S b → w.heap.size ≤ b) : Il w' v L := by
  obtain ⟨h0, a, c, rfl, h1⟩ := h
  refine ⟨h0, a, c, rfl, fun i p hp => ?_⟩
  obtain ⟨b1, b2, ad, rfl, c0, c1⟩ := h1 i p hp
  exact ⟨b1, b2, ad, rfl, hf.cell c0 (fun e => by have := hS _ e; have := World.block_lt_of_cell? w _ c0; omega), hf.cell c1 (fun e => by have := hS _ e; have := World.block_lt_of_cell? w _ c1; omega)⟩
theorem Il.sl {w : World} {v : Value} {L : Its} (h : Il w v L) : ∃ a c, v = .slice a L.length c := by
  obtain ⟨_, a, c, e, _⟩ := h
  exact ⟨a, c, e⟩
theorem Il.lt {w : World} {v : Value} {L : Its} (h : Il w v L) (hL : L ≠ []) : ∀ b, v.ownBlock = some b → b < w.heap.size := fun b hb => by
  obtain ⟨_, a, c, rfl, h1⟩ := h
  cases L with
  | nil => exact absurd rfl hL
  | cons p r =>
    obtain ⟨_, _, ad, rfl, c0, _⟩ := h1 0 p rfl
    have := World.block_lt_of_cell? w _ c0
    rw [add_block] at this
    obtain rfl : ad.block = b := (by simpa [Value.ownBlock] using hb)
    exact this
theorem iAll (a : Option Addr) (n c : Nat) (w : World) : Calls Tryz.prog 102 #[.slice a n c] w fun e w' =>
    e = .returned (.func (.func 131) #[] #[.pointer (some ⟨w.heap.size, 0, none⟩)]) ∧ w' = w.alloc (.cells #[.slice a n c] 65) := by
  go_enter Tryz.func102, Tryz.ntmps102
  go_wp2
  go_ret
  exact ⟨rfl, rfl⟩
def encIt (p : Str × Int) : Array Value := #[vS p.1, .int .i64 p.2]
set_option maxRecDepth 100000 in
set_option maxHeartbeats 4000000 in
theorem iAll1 (S : Nat → Prop) (w : World) (Bt : Nat) (v : Value) (L : Its) (hBt : Boxed w Bt 65 v) (h : Il w v L) (n1 : ¬ S Bt) (n2 : L ≠ [] → ∀ b, S b → v.ownBlock ≠ some b) :
    ItX 131 #[.pointer (some ⟨Bt, 0, none⟩)] encIt L S w := by
  intro lp S' J Jx W hW hS' hJ hY hJx h0
  have hBW := boxed_below hBt hW hBt.lt
  have hLW : Il W v L := h.fr (Fr.below (S := fun _ => False) hW) (fun _ h => h.elim)
  have s2 : L ≠ [] → ∀ b, v.ownBlock = some b → ¬ S' b := fun hl b hb e => n2 hl _ ((hS' _ e).2 (h.lt hl b hb)) hb
  have hltW : L ≠ [] → ∀ b, v.ownBlock = some b → b < W.heap.size := fun hl b hb => Nat.lt_of_lt_of_le (h.lt hl b hb) hW.size
  have hcB := hBW.cell
  obtain ⟨a, c, rfl⟩ := h.sl
  obtain ⟨N, hN⟩ : ∃ N, L.length = N := ⟨_, rfl⟩
  have hNb : (N : Int) ≤ 9223372036854775807 := by have := h.1; omega
  have HS := Lib.hid hS'; have HL := Lib.hid hLW; have S2 := Lib.hid s2; have HN := Lib.hid hN; have HLT := Lib.hid hltW
  rw [hN] at hcB S2 HLT HL ⊢
  have hfn : ∀ f, Fence.wide.fn f := fun _ => trivial
  have hdp : Fence.wide.depth.isSome = false := rfl
  clear hBt h n1 n2 hS' hLW hBW s2 hW hN hltW
  refine (callsIn_wide (n := 0)).1 ?_
  refine callsIn_of_wp Tryz.func131 rfl trivial ?_ rfl
  simp only [Tryz.ntmps131, List.size_toArray, List.length_cons, List.length_nil, Nat.reduceAdd, Nat.reduceSub, Array.replicate_succ, Array.replicate_zero, List.push_toArray, List.append_toArray, List.nil_append, List.cons_append]
  gi_wp2_with fail
  gi_loopw [7] (fun i wr => ∃ (k : Nat) (C : Nat → Prop), k ≤ N ∧ i = .int .i64 k ∧ J k C wr ∧ (∀ b, C b → W.heap.size ≤ b ∧ b < wr.heap.size) ∧ Fr (fun b => S' b ∨ C b) W wr) (fun i _ => N - (intOf i).toNat)
  case atStart => exact ⟨0, _, Nat.zero_le _, rfl, h0, fun _ h => False.elim h, Fr.refl _ _⟩
  case round =>
    obtain ⟨k, C, hk, rfl, hJr, hC, hkp⟩ := hrel
    by_cases hlt : k < N
    · obtain ⟨p, hp⟩ : ∃ p, L[k]? = some p := ⟨L[k]'(by rw [HN.out]; exact hlt), List.getElem?_eq_getElem _⟩
      have hne : L ≠ [] := fun e => by rw [e] at hp; simp at hp
      have hLr := HL.out.keep hkp (fun hl b hb e => e.elim (S2.out hl b hb) (fun e => by have := hC _ e; have := HLT.out hl b hb; omega))
      clear hne
      obtain ⟨_, a', c', e, hx⟩ := hLr
      obtain ⟨ok1, ok2, ad, ea, x0, x1⟩ := hx k p hp
      rw [HN.out] at e
      injection e with e1 _ e3
      rw [ea] at e1
      subst e1 e3
      obtain ⟨g, n⟩ := p
      dsimp only at x0 x1 ok1 ok2
      have hJ2 := hJ k C _ _ hJr (frAlloc (B := W.heap.size) (.cells #[vS g, .int .i64 n] 124))
      obtain ⟨fn, tmps, assign, body, hy, hR⟩ := hY k (g, n) C _ hp hJ2
      dsimp only [encIt] at hy
      have hlI : (k : Int) < N := by omega
      have HC := Lib.hid hC; have HK := Lib.hid hkp; have HP := Lib.hid hp
      clear hC hkp hp hJr hJ2 hx ea ok1 ok2
      gi_wp2
      refine hR.mono ?_
      rintro e W3 (⟨rfl, hJ3, hk3⟩ | ⟨rfl, hJx3, _⟩)
      · gi_wp2
        go_roundw
        case rel =>
          refine ⟨k + 1, _, by omega, by go_num, hJ3, ?_, ?_⟩
          · have hs3 := hk3.size
            have hsa : (wr.alloc (.cells #[vS g, .int .i64 n] 124)).heap.size = wr.heap.size + 1 := by simp
            rintro b (e | e)
            · have := HC.out b e; exact ⟨this.1, by omega⟩
            · have := HK.out.size; exact ⟨by omega, e.2⟩
          · exact (((HK.out.alloc _).mono (fun b _ e => e.elim .inl (fun e => .inr (.inl e))))).trans (hk3.mono (fun b _ e => e.elim .inl (fun e => .inr (.inl e))))
        case measure => simp [intOf]; omega
      · gi_wp2
        refine bodyPost_ret (results_none rfl _ _ _) rfl ?_
        refine ⟨⟨_, rfl⟩, .inr ⟨_, _, ?_, hJx3⟩⟩
        have := HN.out
        omega
    · have : k = N := by omega
      subst this
      gi_wp2
      go_end0
      exact ⟨⟨_, rfl⟩, .inl ⟨C, hJr⟩⟩
theorem str_get (s : Str) (k : Nat) (h : k < (ByteArray.mk s.toArray).size) : (ByteArray.mk s.toArray)[k]'h = s[k]'(by simpa [ByteArray.size] using h) := rfl
theorem goodC_lt {c : UInt8} (h : goodC c = true) : c.toNat < 128 := by
  simp [goodC] at h; omega
theorem goodB_bad {s : Str} {k : Nat} (h : k < s.length) (hb : goodC s[k] = false) : goodB s = false := by
  have : s.all goodC = false := by
    refine Bool.eq_false_iff.2 (fun ht => ?_)
    have := List.all_eq_true.1 ht s[k] (List.getElem_mem h)
    rw [hb] at this; cases this
  simp [goodB, this]
set_option maxRecDepth 100000 in
set_option maxHeartbeats 4000000 in
theorem iGood (w : World) (s : Str) (hs : okS s) : Calls Tryz.prog 84 #[vS s] w fun e w' => e = .returned (.bool (goodB s)) ∧ Fr (fun _ => False) w w' := by
  obtain ⟨G, hG⟩ : ∃ G, goodB s = G := ⟨_, rfl⟩
  rw [hG]
  have HG := Lib.hid hG
  obtain ⟨B, hB⟩ : ∃ B, ByteArray.mk s.toArray = B := ⟨_, rfl⟩
  have hsz : B.size = s.length := by rw [← hB]; simp [ByteArray.size]
  have hge : ∀ k (h : k < B.size) (h' : k < s.length), B[k]'h = s[k]'h' := by subst hB; exact fun k h h' => rfl
  have HSZ := Lib.hid hsz; have HGE := Lib.hid hge; have HBB := Lib.hid hB
  have hs : (s.length : Int) ≤ 9223372036854775807 := by unfold okS maxLen at hs; omega
  rw [← hsz] at hs
  unfold vS
  rw [hB]
  clear hG hB hsz hge
  go_enter Tryz.func84, Tryz.ntmps84
  go_wp2_with fail
  go_loopw [4] (fun _ wr => ∃ k : Nat, k ≤ B.size ∧ wr = w.iter B k ∧ ∀ j (h : j < s.length), j < k → goodC s[j] = true) (fun _ wr => B.size - wr.iterPos w.heap.size)
  case atStart => exact ⟨0, Nat.zero_le _, rfl, fun j _ hj => by omega⟩
  case round =>
    obtain ⟨k, hk, rfl, hall⟩ := hrel
    have HA := Lib.hid hall
    clear hall
    by_cases hp : k < B.size
    · have hnx : ∀ ty, (Instr.next (.pointer (some ⟨w.heap.size, 0, none⟩)) true ty).run Tryz.prog (w.iter B k) = _ := fun ty => run_next_any w B k ty hp
      have hkl : k < s.length := by rw [← HSZ.out]; exact hp
      have hc := HGE.out k hp hkl
      obtain ⟨x, hx⟩ : ∃ x : Nat, (B[k]'hp).toNat = x := ⟨_, rfl⟩
      have hno : Hid (goodC s[k] = false → G = false) := Lib.hid (fun h => by rw [← HG.out]; exact goodB_bad hkl h)
      have hgc : Hid (goodC s[k] = ((decide (97 ≤ x) && decide (x ≤ 122)) || (decide (48 ≤ x) && decide (x ≤ 57)) || decide (x = 45))) := Lib.hid (by rw [← hx, hc]; rfl)
      have hF : Hid (∀ p, Fr (fun _ => False) w (w.iter B p)) := Lib.hid (fun p => (Fr.refl _ w).alloc _)
      by_cases ha : x < 128
      · have hd : Utf8.decode B k = (x, 1) := by rw [decode_ascii B k hp (by omega), hx]
        rw [hd] at hnx
        have hstep : Hid (goodC s[k] = true → ∀ j (h : j < s.length), j < k + 1 → goodC s[j] = true) := Lib.hid (fun hg j h hj => by
          by_cases e : j = k
          · subst e; exact hg
          · exact HA.out j h (by omega))
        clear hd hc hx
        rcases (by omega : (97 ≤ x ∧ x ≤ 122) ∨ x < 48 ∧ x ≠ 45 ∨ x = 45 ∨ (48 ≤ x ∧ x ≤ 57) ∨ (57 < x ∧ x < 97) ∨ 122 < x) with h | h | h | h | h | h
        · have hy := Lib.hid (hstep.out (by rw [hgc.out]; simp [h.1, h.2]))
          obtain ⟨h1, h2⟩ := h
          have q1 : ¬ (x : Int) < 97 := by omega
          have q2 : ¬ (122 : Int) < (x : Int) := by omega
          go_wp2_with fail
          go_roundw
          case rel => exact ⟨k + 1, by omega, rfl, hy.out⟩
          case measure => simp; omega
        · have hn := Lib.hid (hno.out (by rw [hgc.out]; simp; omega))
          obtain ⟨h1, h2⟩ := h
          have q1 : (x : Int) < 48 := by omega
          have q2 : ((x : Int) != 45) = true := by simp; omega
          have q3 : (x : Int) < 97 := by omega
          go_wp2_with fail
          go_ret
          exact ⟨by rw [hn.out]; rfl, hF.out _⟩
        · have hy := Lib.hid (hstep.out (by rw [hgc.out]; simp [h]))
          subst h
          go_wp2_with fail
          go_roundw
          case rel => exact ⟨k + 1, by omega, rfl, hy.out⟩
          case measure => simp; omega
        · have hy := Lib.hid (hstep.out (by rw [hgc.out]; simp [h.1, h.2]))
          obtain ⟨h1, h2⟩ := h
          have q1 : ¬ (x : Int) < 48 := by omega
          have q2 : ¬ (57 : Int) < (x : Int) := by omega
          have q3 : (x : Int) < 97 := by omega
          go_wp2_with fail
          go_roundw
          case rel => exact ⟨k + 1, by omega, rfl, hy.out⟩
          case measure => simp; omega
        · have hn := Lib.hid (hno.out (by rw [hgc.out]; simp; omega))
          obtain ⟨h1, h2⟩ := h
          have q1 : ¬ (x : Int) < 48 := by omega
          have q2 : (57 : Int) < (x : Int) := by omega
          have q3 : (x : Int) < 97 := by omega
          have q4 : ((x : Int) != 45) = true := by simp; omega
          go_wp2_with fail
          go_ret
          exact ⟨by rw [hn.out]; rfl, hF.out _⟩
        · have hn := Lib.hid (hno.out (by rw [hgc.out]; simp; omega))
          have q1 : ¬ (x : Int) < 48 := by omega
          have q2 : (57 : Int) < (x : Int) := by omega
          have q3 : ¬ (x : Int) < 97 := by omega
          have q4 : ((x : Int) != 45) = true := by simp; omega
          have q5 : (122 : Int) < (x : Int) := by omega
          go_wp2_with fail
          go_ret
          exact ⟨by rw [hn.out]; rfl, hF.out _⟩
      · obtain ⟨hr1, hr2⟩ := decode_high B k hp (by omega)
        obtain ⟨y, hy⟩ : ∃ y, (Utf8.decode B k).1 = y := ⟨_, rfl⟩
        obtain ⟨z, hz⟩ : ∃ z, (Utf8.decode B k).2 = z := ⟨_, rfl⟩
        have hyl := decode_le B k
        rw [hy, hz] at hnx
        rw [hy] at hr1 hyl
        have hn := Lib.hid (hno.out (by rw [hgc.out]; simp; omega))
        have q1 : ¬ (y : Int) < 48 := by omega
        have q2 : (57 : Int) < (y : Int) := by omega
        have q3 : ¬ (y : Int) < 97 := by omega
        have q4 : ((y : Int) != 45) = true := by simp; omega
        have q5 : (122 : Int) < (y : Int) := by omega
        clear hy hz hc hx hr2 ha
        go_wp2_with fail
        go_ret
        exact ⟨by rw [hn.out]; rfl, hF.out _⟩
    · obtain rfl : k = B.size := by omega
      have hnx : ∀ ty, (Instr.next (.pointer (some ⟨w.heap.size, 0, none⟩)) true ty).run Tryz.prog (w.iter B B.size) = _ := fun ty => run_next_end w B B.size ty hp
      have hF : Hid (∀ p, Fr (fun _ => False) w (w.iter B p)) := Lib.hid (fun p => (Fr.refl _ w).alloc _)
      have hall : Hid (s.all goodC = true) := Lib.hid (List.all_eq_true.2 (fun c hc => by
        obtain ⟨j, hj, rfl⟩ := List.getElem_of_mem hc
        exact HA.out j hj (by rw [HSZ.out]; exact hj)))
      have hGE : Hid (G = (decide (0 < B.size) && decide (B.size ≤ 16))) := Lib.hid (by rw [← HG.out, HSZ.out]; simp [goodB, hall.out])
      have hemp : Hid (B.toList.isEmpty = decide (B.size = 0)) := Lib.hid (by
        rw [← HBB.out]
        cases s <;> simp [ByteArray.size])
      clear hp
      by_cases h0 : B.size = 0
      · have he : B.toList.isEmpty = true := by rw [hemp.out]; simp [h0]
        have hg : Hid (G = false) := Lib.hid (by rw [hGE.out]; simp [h0])
        clear h0
        go_wp2_with fail
        go_ret
        exact ⟨by rw [hg.out]; rfl, hF.out _⟩
      · have he : B.toList.isEmpty = false := by rw [hemp.out]; simp [h0]
        by_cases h16 : B.size ≤ 16
        · have hg : Hid (G = true) := Lib.hid (by rw [hGE.out]; simp; omega)
          have hI : (B.size : Int) ≤ 16 := by omega
          clear h0
          go_wp2_with fail
          go_ret
          exact ⟨by rw [hg.out]; rfl, hF.out _⟩
        · have hg : Hid (G = false) := Lib.hid (by rw [hGE.out]; simp; omega)
          have hI : ¬ (B.size : Int) ≤ 16 := by omega
          clear h0
          go_wp2_with fail
          go_ret
          exact ⟨by rw [hg.out]; rfl, hF.out _⟩
end Go.Proofs.YtlniekobijcanaaGreat
namespace Go.Proofs.YtlniekobijcanaaGreat
open Go.RowKit Go.Maps
attribute [local go_sem] Oper.semAt_some
theorem itsOk_cons (last : Str) (p : Str × Int) (r : Its) : itsOk last (p :: r) = (goodB p.1 && decide (1 ≤ p.2) && mayI p.2 && decide (last < p.1) && itsOk p.1 r) := rfl
/-- Two blocks of the call's own are as told, and all else that was there is as it was. -/
structure MyI (w0 w : World) (n0 : Nat) (r : Bool) (last : Str) : Prop where
  res : w.heap[n0]? = some (.cells #[.bool r] 4)
  last : w.heap[n0 + 1]? = some (.cells #[vS last] 9)
  fr : Fr (fun b => n0 ≤ b) w0 w
theorem MyI.fa {B : Nat} {w0 w w' : World} {n0 : Nat} {r : Bool} {last : Str} (h : MyI w0 w n0 r last) (hf : Fa B w w') (hB : w0.heap.size ≤ B) : MyI w0 w' n0 r last :=
  ⟨Fa.cells hf h.res, Fa.cells hf h.last, h.fr.trans' hf (fun b hb e => by have := e.1; omega)⟩
theorem MyI.keep {w0 w w' : World} {n0 : Nat} {r : Bool} {last : Str} (h : MyI w0 w n0 r last) (hf : Fr (fun _ => False) w w') : MyI w0 w' n0 r last :=
  ⟨hf.at_ h.res (fun h => h), hf.at_ h.last (fun h => h), h.fr.trans' hf (fun _ _ e => e.elim)⟩
theorem MyI.putL {w0 w : World} {n0 : Nat} {r : Bool} {last : Str} (h : MyI w0 w n0 r last) (s : Str) : MyI w0 (w.setCell ⟨n0 + 1, 0, none⟩ (vS s)) n0 r s := by
  have hF : Fr (fun b => b = n0 + 1) w (w.setCell ⟨n0 + 1, 0, none⟩ (vS s)) := (Fr.refl (fun b => b = n0 + 1) w).setCell (p := ⟨n0 + 1, 0, none⟩) (fun _ => rfl) _
  exact ⟨hF.at_ h.res (by omega), obj_set h.last 0 _, h.fr.trans' hF (fun b _ e => by omega)⟩
theorem MyI.putR {w0 w : World} {n0 : Nat} {r : Bool} {last : Str} (h : MyI w0 w n0 r last) (b : Bool) : MyI w0 (w.setCell ⟨n0, 0, none⟩ (.bool b)) n0 b last := by
  have hF : Fr (fun b => b = n0) w (w.setCell ⟨n0, 0, none⟩ (.bool b)) := (Fr.refl (fun b => b = n0) w).setCell (p := ⟨n0, 0, none⟩) (fun _ => rfl) _
  exact ⟨obj_set h.res 0 _, hF.at_ h.last (by omega), h.fr.trans' hF (fun b _ e => by omega)⟩
def MyJ (w0 : World) (n0 : Nat) (L : Its) (k : Nat) (_ : Nat → Prop) (W : World) : Prop := ∃ last, MyI w0 W n0 false last ∧ itsOk [] L = itsOk last (L.drop k)
def MyX (w0 : World) (n0 : Nat) (L : Its) (c : Code) (_ : Nat) (_ : Nat → Prop) (W : World) : Prop := c = .ret ∧ itsOk [] L = false ∧ ∃ last, MyI w0 W n0 false last
set_option maxRecDepth 100000 in
set_option maxHeartbeats 8000000 in
theorem iMay (w : World) (v : Value) (L : Its) (h : Il w v L) : Calls Tryz.prog 108 #[v] w fun e w' => e = .returned (.bool (mayL L)) ∧ Fr (fun _ => False) w w' := by
  obtain ⟨n0, hn0⟩ : ∃ n0, w.heap.size = n0 := ⟨_, rfl⟩
  have HS := Lib.hid hn0
  have HL := Lib.hid h
  have hob := h.lt
  have HOB := Lib.hid hob
  have hokl : Hid (∀ (k : Nat) (p : Str × Int), L[k]? = some p → okS p.1) := Lib.hid (fun k p hp => by obtain ⟨_, _, _, _, hx⟩ := h; exact (hx k p hp).1)
  obtain ⟨a, c, rfl⟩ := h.sl
  obtain ⟨N, hN⟩ : ∃ N, L.length = N := ⟨_, rfl⟩
  have HN := Lib.hid hN
  have hNb : (N : Int) ≤ 9223372036854775807 := by have := h.1; omega
  rw [hN] at HL HOB ⊢
  clear h hob hN
  refine (callsIn_wide (n := 0)).1 ?_
  refine callsIn_of_wp_marks Tryz.func108 rfl trivial ?_ rfl
  simp only [Tryz.ntmps108, List.size_toArray, List.length_cons, List.length_nil, Nat.reduceAdd, Nat.reduceSub, Array.replicate_succ, Array.replicate_zero, List.push_toArray, List.append_toArray, List.nil_append, List.cons_append]
  have hfn : ∀ f, Fence.wide.fn f := fun _ => trivial
  have hdp : Fence.wide.depth.isSome = false := rfl
  gi_wp2_with (gi_at_call 102; refine (callsIn_wide.2 (iAll _ _ _ _)).mono ?_; rintro e w1 ⟨rfl, rfl⟩)
  have hI0 : MyI w (((w.alloc (.cells #[.bool false] 4)).alloc (.cells #[vS []] 9)).alloc (.cells #[.slice a N c] 65)) n0 false [] := by
    refine ⟨heap_keep (heap_keep (heap_at hn0.symm _) _) _, heap_keep (heap_at (by simp; omega) _) _, (((Fr.refl _ w).alloc _).alloc _).alloc _⟩
  have hB0 : Boxed (((w.alloc (.cells #[.bool false] 4)).alloc (.cells #[vS []] 9)).alloc (.cells #[.slice a N c] 65)) (n0 + 2) 65 (.slice a N c) := heap_at (by simp; omega) _
  obtain ⟨W0, hW0⟩ : ∃ W0, (((w.alloc (.cells #[.bool false] 4)).alloc (.cells #[vS []] 9)).alloc (.cells #[.slice a N c] 65)) = W0 := ⟨_, rfl⟩
  have hs0 : W0.heap.size = n0 + 3 := by rw [← hW0]; simp; omega
  rw [hW0] at hI0 hB0 ⊢
  have hL0 := HL.out.fr hI0.fr (fun b hb => by omega)
  have HI0 := Lib.hid hI0; have HS0 := Lib.hid hs0
  clear hW0 hI0
  refine rangeX (w0 := W0) (X := L) (S := fun b => b = n0 ∨ b = n0 + 1) rfl (enters_of Tryz.func131 (by kernel_rfl) rfl)
    (iAll1 _ W0 (n0 + 2) _ L hB0 hL0 (by omega) (fun hl b hb e => by have := HOB.out hl b e; omega)) (Below.refl _ _) (fun b hb => by omega) (fun _ => rfl)
    (MyJ w n0 L) (MyX w n0 L)
    (fun k C W W' hs hf => by obtain ⟨l, h1, h2⟩ := hs; exact ⟨l, h1.fa hf (by omega), h2⟩) (fun c k C W W' hs hf => by obtain ⟨e, e2, l, h1⟩ := hs; exact ⟨e, e2, l, h1.fa hf (by omega)⟩)
    ⟨[], HI0.out, rfl⟩ ?round ?done ?stop
  case round =>
    rintro lp k x C W hx hlp hi hr
    dsimp only [encIt]
    gi_wp2
    refine Took.mk (Fr.refl _ _) hi ?_
    rintro Wb ⟨last, hM, hrest⟩ hrb hf hsz hsw hCC _
    have hdr : L.drop k = x :: L.drop (k + 1) := List.drop_eq_getElem?_toList_append |>.trans (by rw [hx]; rfl)
    rw [hdr, itsOk_cons] at hrest
    have hok := hokl.out k x hx
    obtain ⟨g, n⟩ := x
    dsimp only at hrest hok ⊢
    have HM := Lib.hid hM; have HOK := Lib.hid hok
    clear hM hok hi hr hf hrb hdr hx
    by_cases hg : goodB g = true
    · rw [hg, Bool.true_and] at hrest
      by_cases h1 : 1 ≤ n
      · rw [decide_eq_true h1, Bool.true_and] at hrest
        cases hm : mayI n with
        | false =>
          have HNO : Hid (itsOk [] L = false) := Lib.hid (by rw [hrest, hm]; rfl)
          clear hrest
          gi_wp2_with (first
        | (gi_at_call 84; refine (callsIn_wide.2 (iGood _ g HOK.out)).mono ?_; rw [hg]; rintro e w2 ⟨rfl, hf2⟩; have hM2 := HM.out.keep hf2; have HM2 := Lib.hid hM2; have HF2 := Lib.hid hf2; have c0 := cell_obj hM2.last 0 (vS last) rfl; have f0 := obj_frozen hM2.last 0; have cr := cell_obj hM2.res 0 (.bool false) rfl; have fr := obj_frozen hM2.res 0; clear hM2 hf2)
        | (gi_at_call 85; refine (callsIn_wide.2 (kMay _ n)).mono ?_; rw [hm]; rintro e w3 ⟨rfl, rfl⟩))
          refine ⟨(HF2.out.mono (fun _ _ e => e.elim)).setCell (p := ⟨n0, 0, none⟩) (fun _ => .inl (.inl rfl)) _, rfl, HNO.out, last, HM2.out.putR false⟩
        | true =>
          rw [hm, Bool.true_and] at hrest
          rcases str_tri last g with hlt | heq | hgt
          · have HYES : Hid (itsOk [] L = itsOk g (L.drop (k + 1))) := Lib.hid (by rw [hrest, decide_eq_true hlt, Bool.true_and])
            have q1 : Op.bytesLess g last = false := by rw [bytesLess_eq]; simpa using str_asym hlt
            have q2 : (g == last) = false := by
              simp only [beq_eq_false_iff_ne, ne_eq]
              rintro rfl; exact str_irr _ hlt
            clear hrest hlt
            gi_wp2_with (first
        | (gi_at_call 84; refine (callsIn_wide.2 (iGood _ g HOK.out)).mono ?_; rw [hg]; rintro e w2 ⟨rfl, hf2⟩; have hM2 := HM.out.keep hf2; have HM2 := Lib.hid hM2; have HF2 := Lib.hid hf2; have c0 := cell_obj hM2.last 0 (vS last) rfl; have f0 := obj_frozen hM2.last 0; have cr := cell_obj hM2.res 0 (.bool false) rfl; have fr := obj_frozen hM2.res 0; clear hM2 hf2)
        | (gi_at_call 85; refine (callsIn_wide.2 (kMay _ n)).mono ?_; rw [hm]; rintro e w3 ⟨rfl, rfl⟩))
            exact ⟨(HF2.out.mono (fun _ _ e => e.elim)).setCell (p := ⟨n0 + 1, 0, none⟩) (fun _ => .inl (.inr rfl)) _, g, HM2.out.putL g, HYES.out⟩
          · have HNO : Hid (itsOk [] L = false) := Lib.hid (by rw [hrest, heq, decide_eq_false (str_irr g), Bool.false_and])
            have q2 : (g == last) = true := by simp [heq]
            clear hrest heq
            gi_wp2_with (first
        | (gi_at_call 84; refine (callsIn_wide.2 (iGood _ g HOK.out)).mono ?_; rw [hg]; rintro e w2 ⟨rfl, hf2⟩; have hM2 := HM.out.keep hf2; have HM2 := Lib.hid hM2; have HF2 := Lib.hid hf2; have c0 := cell_obj hM2.last 0 (vS last) rfl; have f0 := obj_frozen hM2.last 0; have cr := cell_obj hM2.res 0 (.bool false) rfl; have fr := obj_frozen hM2.res 0; clear hM2 hf2)
        | (gi_at_call 85; refine (callsIn_wide.2 (kMay _ n)).mono ?_; rw [hm]; rintro e w3 ⟨rfl, rfl⟩))
            refine ⟨(HF2.out.mono (fun _ _ e => e.elim)).setCell (p := ⟨n0, 0, none⟩) (fun _ => .inl (.inl rfl)) _, rfl, HNO.out, last, HM2.out.putR false⟩
          · have HNO : Hid (itsOk [] L = false) := Lib.hid (by rw [hrest, decide_eq_false (str_asym hgt), Bool.false_and])
            have q1 : Op.bytesLess g last = true := by rw [bytesLess_eq]; simpa using hgt
            clear hrest hgt
            gi_wp2_with (first
        | (gi_at_call 84; refine (callsIn_wide.2 (iGood _ g HOK.out)).mono ?_; rw [hg]; rintro e w2 ⟨rfl, hf2⟩; have hM2 := HM.out.keep hf2; have HM2 := Lib.hid hM2; have HF2 := Lib.hid hf2; have c0 := cell_obj hM2.last 0 (vS last) rfl; have f0 := obj_frozen hM2.last 0; have cr := cell_obj hM2.res 0 (.bool false) rfl; have fr := obj_frozen hM2.res 0; clear hM2 hf2)
        | (gi_at_call 85; refine (callsIn_wide.2 (kMay _ n)).mono ?_; rw [hm]; rintro e w3 ⟨rfl, rfl⟩))
            refine ⟨(HF2.out.mono (fun _ _ e => e.elim)).setCell (p := ⟨n0, 0, none⟩) (fun _ => .inl (.inl rfl)) _, rfl, HNO.out, last, HM2.out.putR false⟩
      · have HNO : Hid (itsOk [] L = false) := Lib.hid (by rw [hrest, decide_eq_false h1, Bool.false_and, Bool.false_and, Bool.false_and])
        have h1' : n < 1 := by omega
        clear hrest
        gi_wp2_with (first
        | (gi_at_call 84; refine (callsIn_wide.2 (iGood _ g HOK.out)).mono ?_; rw [hg]; rintro e w2 ⟨rfl, hf2⟩; have hM2 := HM.out.keep hf2; have HM2 := Lib.hid hM2; have HF2 := Lib.hid hf2; have c0 := cell_obj hM2.last 0 (vS last) rfl; have f0 := obj_frozen hM2.last 0; have cr := cell_obj hM2.res 0 (.bool false) rfl; have fr := obj_frozen hM2.res 0; clear hM2 hf2)
        | (gi_at_call 85; refine (callsIn_wide.2 (kMay _ n)).mono ?_; rw [hm]; rintro e w3 ⟨rfl, rfl⟩))
        refine ⟨(HF2.out.mono (fun _ _ e => e.elim)).setCell (p := ⟨n0, 0, none⟩) (fun _ => .inl (.inl rfl)) _, rfl, HNO.out, last, HM2.out.putR false⟩
    · have hg : goodB g = false := by simpa using hg
      have HNO : Hid (itsOk [] L = false) := Lib.hid (by rw [hrest, hg]; rfl)
      clear hrest
      gi_wp2_with (first
        | (gi_at_call 84; refine (callsIn_wide.2 (iGood _ g HOK.out)).mono ?_; rw [hg]; rintro e w2 ⟨rfl, hf2⟩; have hM2 := HM.out.keep hf2; have HM2 := Lib.hid hM2; have HF2 := Lib.hid hf2; have c0 := cell_obj hM2.last 0 (vS last) rfl; have f0 := obj_frozen hM2.last 0; have cr := cell_obj hM2.res 0 (.bool false) rfl; have fr := obj_frozen hM2.res 0; clear hM2 hf2)
        | (gi_at_call 85; refine (callsIn_wide.2 (kMay _ n)).mono ?_; rw [hm]; rintro e w3 ⟨rfl, rfl⟩))
      refine ⟨(HF2.out.mono (fun _ _ e => e.elim)).setCell (p := ⟨n0, 0, none⟩) (fun _ => .inl (.inl rfl)) _, rfl, HNO.out, last, HM2.out.putR false⟩
  case stop =>
    rintro D c k C W hD hk ⟨rfl, hF, last, hM⟩ hr hK
    have HM := Lib.hid hM; have HNO := Lib.hid hF
    have hc5 := cell_obj (Fa.cells (frPut (B := n0) (.deferred none) (by omega) hK rfl) hM.res) 0 (.bool false) rfl
    clear hM hF hr
    gi_wp2_with fail
    refine ⟨by simp, .inl ⟨_, _, rfl, run_takeDeferred hK, ?_⟩⟩
    refine ⟨.bool (mayL L), by simp [results, Tryz.results108, go_sem, hc5, mayL, HNO.out], rfl, ?_⟩
    exact (HM.out.fr.putObj (l := D) (fun _ => by omega) _).mono (fun b hb e => by omega)
  case done =>
    rintro D C W hD ⟨last, hM, hrest⟩ hr hK
    have HYES : Hid (itsOk [] L = true) := Lib.hid (by rw [hrest, List.drop_length]; rfl)
    have HM := Lib.hid hM
    have cr := cell_obj hM.res 0 (.bool false) rfl
    have fr := obj_frozen hM.res 0
    have hR5 := (hM.putR (decide ((N : Int) ≤ 16))).res
    have hK5 := (Below.heap_setCell W ⟨n0, 0, none⟩ (.bool (decide ((N : Int) ≤ 16))) D (by simp; omega)).trans hK
    have HR5 := Lib.hid hR5; have HK5 := Lib.hid hK5
    clear hM hrest hr hK hR5 hK5
    gi_wp2_with fail
    have hc5 := cell_obj (Fa.cells (frPut (B := n0) (.deferred none) (by omega) HK5.out rfl) HR5.out) 0 (.bool (decide ((N : Int) ≤ 16))) rfl
    refine ⟨by simp, .inl ⟨_, _, rfl, run_takeDeferred HK5.out, ?_⟩⟩
    refine ⟨.bool (decide ((N : Int) ≤ 16)), by simp [results, Tryz.results108, go_sem, hc5], ?_, ?_⟩
    · have : mayL L = decide ((N : Int) ≤ 16) := by
        unfold mayL
        rw [HYES.out, Bool.true_and, HN.out]
        by_cases h : N ≤ 16
        · rw [decide_eq_true h, decide_eq_true (by omega)]
        · rw [decide_eq_false h, decide_eq_false (by omega)]
      rw [this]
    · exact ((HM.out.putR _).fr.putObj (l := D) (fun _ => by omega) _).mono (fun b hb e => by omega)
end Go.Proofs.YtlniekobijcanaaGreat
namespace Go.Proofs.YtlniekobijcanaaGreat
open Go.RowKit
/-- The variable in block B holds a slice that owns xs; its row, if it has one, was made by the rounds. -/
structure Col (W : World) (base B : Nat) (t e : TypeId) (size : Nat) (C : Nat → Prop) (v : Value) (n : Nat) (xs : List Value) : Prop where
  box : Boxed W B t v
  row : W.ownsRow base e size v n xs
  mine : ∀ b, v.ownBlock = some b → C b
section
variable {W w1 W' : World} {base B : Nat} {t e : TypeId} {size : Nat} {C : Nat → Prop} {v v' : Value} {n m : Nat} {xs ys : List Value} {tmp : Obj}
theorem Col.fa {D : Nat} (h : Col W base B t e size C v n xs) (hf : Fa D W W') : Col W' base B t e size C v n xs := ⟨Fa.box hf h.box, Fa.row hf h.row, h.mine⟩
theorem Col.cc {W0 : World} {W1 : World} (h : Col W base B t e size C v n xs) : Col W base B t e size (CC C W0 W1) v n xs := ⟨h.box, h.row, fun b hb => .inl (h.mine b hb)⟩
theorem Col.appended {S : Nat → Prop} {W0 : World} (h : Col W base B t e size C v n xs) (hte : t ≠ e) (hS : S B) (h0 : W0.heap.size ≤ W.heap.size)
    (hown' : w1.ownsRow base e size v' m ys) (hgrow : (W.alloc tmp).grownBy w1 v.ownBlock) (hat : v'.ownBlock = v.ownBlock ∨ v'.ownBlock = some (W.alloc tmp).heap.size) :
    Boxed w1 B t v ∧ Col (w1.setCell ⟨B, 0, none⟩ v') base B t e size (CC C W0 (w1.setCell ⟨B, 0, none⟩ v')) v' m ys ∧ Fr (fun b => S b ∨ CC C W0 W b) W (w1.setCell ⟨B, 0, none⟩ v') := by
  have hv1 : Boxed w1 B t v := (h.box.alloc tmp).kept hgrow (h.box.not_row hte h.row)
  refine ⟨hv1, ⟨hv1.set v', hown'.kept (grownBy_setCell' w1 B v') (.inr (hv1.not_row hte hown').symm), fun b hb => ?_⟩, ?_⟩
  · rcases hat with e1 | e1
    · rw [e1] at hb
      exact .inl (h.mine b hb)
    · rw [e1] at hb
      cases hb
      have h3 := (hown'.lt _ e1).2
      have h4 : (w1.setCell ⟨B, 0, none⟩ v').heap.size = w1.heap.size := by simp [World.setCell]
      have h5 : (W.alloc tmp).heap.size = W.heap.size + 1 := by simp
      refine .inr ⟨by omega, by omega⟩
  · refine Fr.setCell (p := ⟨B, 0, none⟩) ?_ (fun _ => .inl hS) _
    refine ((Fr.refl _ W).alloc tmp).trans (Fr.grown hgrow (fun r hr _ => .inr (.inl (h.mine r hr))))
end
end Go.Proofs.YtlniekobijcanaaGreat
namespace Go.Proofs.YtlniekobijcanaaGreat
open Go.RowKit Go.Maps
theorem infoItem : (Tryz.prog.info? 124).map (fun i => (i.zero, i.size, i.bytes)) = some (some (.agg #[.string ⟨#[]⟩, .int .i64 0]), 2, 24) := by kernel_rfl
/-- Items' cells. -/
def itCs (L : Its) : List Value := L.flatMap fun p => [vS p.1, .int .i64 p.2]
theorem itCs_app (L M : Its) : itCs (L ++ M) = itCs L ++ itCs M := by simp [itCs]
theorem itCs_len (L : Its) : (itCs L).length = L.length * 2 := by
  induction L with
  | nil => rfl
  | cons q r ih => simp only [itCs, List.flatMap_cons, List.length_append, List.length_cons, List.length_nil] at *; rw [ih]; omega
theorem itCs_one {u : Value} {L : Its} (h : u ∈ itCs L) : u.oneCell' = true := by
  simp only [itCs, List.mem_flatMap] at h
  obtain ⟨q, _, hq⟩ := h
  simp only [List.mem_cons, List.not_mem_nil, or_false] at hq
  rcases hq with rfl | rfl <;> rfl
theorem itCs_at : ∀ {L : Its} {k : Nat} {p : Str × Int}, L[k]? = some p → (itCs L)[k * 2]? = some (vS p.1) ∧ (itCs L)[k * 2 + 1]? = some (.int .i64 p.2)
  | q :: r, 0, p, h => by
    cases h
    exact ⟨rfl, rfl⟩
  | q :: r, k + 1, p, h => by
    have := itCs_at (L := r) (k := k) (p := p) (by simpa using h)
    rw [show (k + 1) * 2 = k * 2 + 1 + 1 by omega]
    exact this
/-- What a row of the call's own reads as. -/
theorem Il.own {w : World} {base : Nat} {v : Value} {L : Its} (h : w.ownsRow base 124 2 v L.length (itCs L)) (hL : ∀ p ∈ L, okS p.1 ∧ okI p.2) : Il w v L ∧ ∀ b, v.ownBlock = some b → base ≤ b ∧ b < w.heap.size := by
  refine ⟨?_, fun b hb => h.lt b hb⟩
  rcases h.2 with ⟨rfl, h0⟩ | ⟨g, cap, cur, rfl, hbase, hb, hn, hm, hs, ht⟩
  · have : L = [] := List.eq_nil_of_length_eq_zero h0
    subst this
    exact ⟨by simp, none, 0, rfl, fun i p hp => by simp at hp⟩
  · have hm' : cap ≤ 9223372036854775807 := hm
    refine ⟨by omega, some ⟨g, 0, none⟩, cap, rfl, fun i p hp => ?_⟩
    have hok := hL p (List.mem_of_getElem? hp)
    obtain ⟨c0, c1⟩ := itCs_at hp
    have hi := (List.getElem?_eq_some_iff.1 hp).1
    have k0 := h.cellAt (g := g) (j := i * 2) (by omega)
    have k1 := h.cellAt (g := g) (j := i * 2 + 1) (by omega)
    have e0 : (⟨g, 0, none⟩ : Addr).add (i * 2) = ⟨g, i * 2, none⟩ := by
      unfold Addr.add; split <;> simp_all
    refine ⟨hok.1, hok.2, _, rfl, ?_, ?_⟩
    · rw [e0, k0]; exact c0
    · rw [e0]; dsimp only; rw [k1]; exact c1
end Go.Proofs.YtlniekobijcanaaGreat
namespace Go.Proofs.YtlniekobijcanaaGreat
open Go.RowKit Go.Maps
attribute [local go_sem] Oper.semAt_some
/-- Two blocks of cells of the call's own, and all else that was there is as it was. -/
structure Tw (w0 w : World) (n0 : Nat) (c0 : Array Value) (t0 : TypeId) (c1 : Array Value) (t1 : TypeId) : Prop where
  a : w.heap[n0]? = some (.cells c0 t0)
  b : w.heap[n0 + 1]? = some (.cells c1 t1)
  fr : Fr (fun b => n0 ≤ b) w0 w
section
variable {w0 w w' : World} {n0 B : Nat} {c0 c1 : Array Value} {t0 t1 : TypeId}
theorem Tw.fa (h : Tw w0 w n0 c0 t0 c1 t1) (hf : Fa B w w') (hB : w0.heap.size ≤ B) : Tw w0 w' n0 c0 t0 c1 t1 :=
  ⟨Fa.cells hf h.a, Fa.cells hf h.b, h.fr.trans' hf (fun b hb e => by have := e.1; omega)⟩
theorem Tw.keep (h : Tw w0 w n0 c0 t0 c1 t1) (hf : Fr (fun _ => False) w w') : Tw w0 w' n0 c0 t0 c1 t1 :=
  ⟨hf.at_ h.a (fun h => h), hf.at_ h.b (fun h => h), h.fr.trans' hf (fun _ _ e => e.elim)⟩
theorem Tw.put (h : Tw w0 w n0 c0 t0 c1 t1) (j : Nat) (u : Value) : Tw w0 (w.setCell ⟨n0 + 1, j, none⟩ u) n0 c0 t0 (c1.setIfInBounds j u) t1 := by
  have hF : Fr (fun b => b = n0 + 1) w (w.setCell ⟨n0 + 1, j, none⟩ u) := (Fr.refl (fun b => b = n0 + 1) w).setCell (p := ⟨n0 + 1, j, none⟩) (fun _ => rfl) _
  exact ⟨hF.at_ h.a (by omega), obj_set h.b j _, h.fr.trans' hF (fun b _ e => by omega)⟩
end
/-- How many of a good. -/
def ofStep (s : Str) (a : Int) (p : Str × Int) : Int := if p.1 = s then wrap64 (a + p.2) else a
def ofF (L : Its) (s : Str) : Int := L.foldl (ofStep s) 0
theorem ofF_take {L : Its} {k : Nat} {p : Str × Int} (s : Str) (h : L[k]? = some p) : ofF (L.take (k + 1)) s = ofStep s (ofF (L.take k) s) p := by
  unfold ofF
  rw [List.take_add_one, h, List.foldl_append]
  rfl
def totF (L : Its) : Int := L.foldl (fun a p => wrap64 (a + p.2)) 0
theorem totF_take {L : Its} {k : Nat} {p : Str × Int} (h : L[k]? = some p) : totF (L.take (k + 1)) = wrap64 (totF (L.take k) + p.2) := by
  unfold totF
  rw [List.take_add_one, h, List.foldl_append]
  rfl
set_option maxRecDepth 100000 in
set_option maxHeartbeats 8000000 in
theorem iOf (w : World) (v : Value) (L : Its) (s : Str) (h : Il w v L) : Calls Tryz.prog 56 #[v, vS s] w fun e w' => e = .returned (.int .i64 (ofF L s)) ∧ Fr (fun _ => False) w w' := by
  obtain ⟨n0, hn0⟩ : ∃ n0, w.heap.size = n0 := ⟨_, rfl⟩
  have HS := Lib.hid hn0
  have HL := Lib.hid h
  have HOB := Lib.hid h.lt
  obtain ⟨a, c, rfl⟩ := h.sl
  obtain ⟨N, hN⟩ : ∃ N, L.length = N := ⟨_, rfl⟩
  have HN := Lib.hid hN
  rw [hN] at HL HOB ⊢
  clear h hN
  refine (callsIn_wide (n := 0)).1 ?_
  refine callsIn_of_wp_marks Tryz.func56 rfl trivial ?_ rfl
  simp only [Tryz.ntmps56, List.size_toArray, List.length_cons, List.length_nil, Nat.reduceAdd, Nat.reduceSub, Array.replicate_succ, Array.replicate_zero, List.push_toArray, List.append_toArray, List.nil_append, List.cons_append]
  have hfn : ∀ f, Fence.wide.fn f := fun _ => trivial
  have hdp : Fence.wide.depth.isSome = false := rfl
  gi_wp2_with (gi_at_call 102; refine (callsIn_wide.2 (iAll _ _ _ _)).mono ?_; rintro e w1 ⟨rfl, rfl⟩)
  have hI0 : Tw w (((w.alloc (.cells #[vS s] 9)).alloc (.cells #[.int .i64 0] 3)).alloc (.cells #[.slice a N c] 65)) n0 #[vS s] 9 #[.int .i64 0] 3 := by
    refine ⟨heap_keep (heap_keep (heap_at hn0.symm _) _) _, heap_keep (heap_at (by simp; omega) _) _, (((Fr.refl _ w).alloc _).alloc _).alloc _⟩
  have hB0 : Boxed (((w.alloc (.cells #[vS s] 9)).alloc (.cells #[.int .i64 0] 3)).alloc (.cells #[.slice a N c] 65)) (n0 + 2) 65 (.slice a N c) := heap_at (by simp; omega) _
  obtain ⟨W0, hW0⟩ : ∃ W0, (((w.alloc (.cells #[vS s] 9)).alloc (.cells #[.int .i64 0] 3)).alloc (.cells #[.slice a N c] 65)) = W0 := ⟨_, rfl⟩
  have hs0 : W0.heap.size = n0 + 3 := by rw [← hW0]; simp; omega
  rw [hW0] at hI0 hB0 ⊢
  have hL0 := HL.out.fr hI0.fr (fun b hb => by omega)
  have HI0 := Lib.hid hI0; have HS0 := Lib.hid hs0
  clear hW0 hI0
  refine rangeX (w0 := W0) (X := L) (S := fun b => b = n0 + 1) rfl (enters_of Tryz.func131 (by kernel_rfl) rfl)
    (iAll1 _ W0 (n0 + 2) _ L hB0 hL0 (by omega) (fun hl b hb e => by have := HOB.out hl b e; omega)) (Below.refl _ _) (fun b hb => by omega) (fun _ => rfl)
    (fun k _ W => Tw w W n0 #[vS s] 9 #[.int .i64 (ofF (L.take k) s)] 3) (fun _ _ _ _ => False)
    (fun k C W W' hs hf => hs.fa hf (by omega)) (fun c k C W W' hs hf => hs)
    HI0.out ?round ?done ?stop
  case round =>
    rintro lp k x C W hx hlp hi hr
    dsimp only [encIt]
    gi_wp2
    refine Took.mk (Fr.refl _ _) hi ?_
    rintro Wb hM hrb hf hsz hsw hCC _
    have HT := Lib.hid (ofF_take s hx)
    obtain ⟨A, hA⟩ : ∃ A, ofF (L.take k) s = A := ⟨_, rfl⟩
    rw [hA] at hM HT
    obtain ⟨g, n⟩ := x
    have HM := Lib.hid hM
    have c0 := cell_obj hM.a 0 (vS s) rfl
    have c1 := cell_obj hM.b 0 (.int .i64 A) rfl
    have f1 := obj_frozen hM.b 0
    clear hM hi hr hf hrb hx hA
    by_cases hg : g = s
    · have q1 : (g == s) = true := by simpa using hg
      have HG := Lib.hid hg
      clear hg
      gi_wp2_with fail
      refine ⟨(Fr.refl _ _).setCell (p := ⟨n0 + 1, 0, none⟩) (fun _ => .inl rfl) _, ?_⟩
      dsimp only
      rw [HT.out]
      unfold ofStep
      rw [if_pos HG.out]
      exact HM.out.put 0 _
    · have q1 : (g == s) = false := by simpa using hg
      have HG := Lib.hid hg
      clear hg
      gi_wp2_with fail
      refine ⟨Fr.refl _ _, ?_⟩
      dsimp only
      rw [HT.out]
      unfold ofStep
      rw [if_neg HG.out]
      exact HM.out
  case stop =>
    rintro D c k C W hD hk hF hr hK
    exact hF.elim
  case done =>
    rintro D C W hD hM hr hK
    have HE : Hid (ofF (L.take L.length) s = ofF L s) := Lib.hid (by rw [List.take_length])
    rw [HE.out] at hM
    have HM := Lib.hid hM; have HK := Lib.hid hK
    have c1 := cell_obj hM.b 0 (.int .i64 (ofF L s)) rfl
    clear hM hr hK
    gi_wp2_with fail
    refine ⟨by simp, .inl ⟨_, _, rfl, run_takeDeferred HK.out, ?_⟩⟩
    refine ⟨.int .i64 (ofF L s), by simp [results, Tryz.results56, go_sem], rfl, ?_⟩
    exact (HM.out.fr.putObj (l := D) (fun _ => by omega) _).mono (fun b hb e => by omega)
set_option maxRecDepth 100000 in
set_option maxHeartbeats 8000000 in
theorem iTotal (w : World) (v : Value) (L : Its) (h : Il w v L) : Calls Tryz.prog 96 #[v] w fun e w' => e = .returned (.int .i64 (totF L)) ∧ Fr (fun _ => False) w w' := by
  obtain ⟨n0, hn0⟩ : ∃ n0, w.heap.size = n0 := ⟨_, rfl⟩
  have HS := Lib.hid hn0
  have HL := Lib.hid h
  have HOB := Lib.hid h.lt
  obtain ⟨a, c, rfl⟩ := h.sl
  obtain ⟨N, hN⟩ : ∃ N, L.length = N := ⟨_, rfl⟩
  have HN := Lib.hid hN
  rw [hN] at HL HOB ⊢
  clear h hN
  refine (callsIn_wide (n := 0)).1 ?_
  refine callsIn_of_wp_marks Tryz.func96 rfl trivial ?_ rfl
  simp only [Tryz.ntmps96, List.size_toArray, List.length_cons, List.length_nil, Nat.reduceAdd, Nat.reduceSub, Array.replicate_succ, Array.replicate_zero, List.push_toArray, List.append_toArray, List.nil_append, List.cons_append]
  have hfn : ∀ f, Fence.wide.fn f := fun _ => trivial
  have hdp : Fence.wide.depth.isSome = false := rfl
  gi_wp2_with (gi_at_call 102; refine (callsIn_wide.2 (iAll _ _ _ _)).mono ?_; rintro e w1 ⟨rfl, rfl⟩)
  have hI0 : ((w.alloc (.cells #[.int .i64 0] 3)).alloc (.cells #[.slice a N c] 65)).heap[n0]? = some (.cells #[.int .i64 0] 3) := heap_keep (heap_at hn0.symm _) _
  have hF0 : Fr (fun b => n0 ≤ b) w ((w.alloc (.cells #[.int .i64 0] 3)).alloc (.cells #[.slice a N c] 65)) := ((Fr.refl _ w).alloc _).alloc _
  have hB0 : Boxed ((w.alloc (.cells #[.int .i64 0] 3)).alloc (.cells #[.slice a N c] 65)) (n0 + 1) 65 (.slice a N c) := heap_at (by simp; omega) _
  obtain ⟨W0, hW0⟩ : ∃ W0, ((w.alloc (.cells #[.int .i64 0] 3)).alloc (.cells #[.slice a N c] 65)) = W0 := ⟨_, rfl⟩
  have hs0 : W0.heap.size = n0 + 2 := by rw [← hW0]; simp; omega
  rw [hW0] at hI0 hB0 hF0 ⊢
  have hL0 := HL.out.fr hF0 (fun b hb => by omega)
  have HI0 := Lib.hid hI0; have HS0 := Lib.hid hs0; have HF0 := Lib.hid hF0
  clear hW0 hI0 hF0
  refine rangeX (w0 := W0) (X := L) (S := fun b => b = n0) rfl (enters_of Tryz.func131 (by kernel_rfl) rfl)
    (iAll1 _ W0 (n0 + 1) _ L hB0 hL0 (by omega) (fun hl b hb e => by have := HOB.out hl b e; omega)) (Below.refl _ _) (fun b hb => by omega) (fun _ => rfl)
    (fun k _ W => W.heap[n0]? = some (.cells #[.int .i64 (totF (L.take k))] 3) ∧ Fr (fun b => n0 ≤ b) w W) (fun _ _ _ _ => False)
    (fun k C W W' hs hf => ⟨Fa.cells hf hs.1, hs.2.trans' hf (fun b hb e => by have := e.1; omega)⟩) (fun c k C W W' hs hf => hs)
    ⟨HI0.out, HF0.out⟩ ?round ?done ?stop
  case round =>
    rintro lp k x C W hx hlp hi hr
    dsimp only [encIt]
    gi_wp2
    refine Took.mk (Fr.refl _ _) hi ?_
    rintro Wb hM hrb hf hsz hsw hCC _
    have HT := Lib.hid (totF_take hx)
    obtain ⟨A, hA⟩ : ∃ A, totF (L.take k) = A := ⟨_, rfl⟩
    rw [hA] at hM HT
    obtain ⟨g, n⟩ := x
    have HM := Lib.hid hM
    have c1 := cell_obj hM.1 0 (.int .i64 A) rfl
    have f1 := obj_frozen hM.1 0
    clear hM hi hr hf hrb hx hA
    gi_wp2_with fail
    refine ⟨(Fr.refl _ _).setCell (p := ⟨n0, 0, none⟩) (fun _ => .inl rfl) _, ?_⟩
    dsimp only
    rw [HT.out]
    exact ⟨obj_set HM.out.1 0 _, HM.out.2.setCell (p := ⟨n0, 0, none⟩) (fun _ => Nat.le_refl _) _⟩
  case stop =>
    rintro D c k C W hD hk hF hr hK
    exact hF.elim
  case done =>
    rintro D C W hD hM hr hK
    have HE : Hid (totF (L.take L.length) = totF L) := Lib.hid (by rw [List.take_length])
    rw [HE.out] at hM
    have HM := Lib.hid hM; have HK := Lib.hid hK
    have c1 := cell_obj hM.1 0 (.int .i64 (totF L)) rfl
    clear hM hr hK
    gi_wp2_with fail
    refine ⟨by simp, .inl ⟨_, _, rfl, run_takeDeferred HK.out, ?_⟩⟩
    refine ⟨.int .i64 (totF L), by simp [results, Tryz.results96, go_sem], rfl, ?_⟩
    exact (HM.out.2.putObj (l := D) (fun _ => by omega) _).mono (fun b hb e => by omega)
end Go.Proofs.YtlniekobijcanaaGreat
namespace Go.Proofs.YtlniekobijcanaaGreat
/-- Rising by the good. -/
def RiseI (L : Its) : Prop := L.Pairwise (fun p q => p.1 < q.1)
/-- L, but so many of s. -/
def setF (L : Its) (s : Str) (n : Int) : Its := L.filter (fun p => decide (p.1 < s)) ++ ((if 0 < n then [(s, n)] else []) ++ L.filter (fun p => decide (s < p.1)))
theorem riseI_inj {L : Its} (h : RiseI L) {p q : Str × Int} (hp : p ∈ L) (hq : q ∈ L) (e : p.1 = q.1) : p = q := by
  induction L with
  | nil => cases hp
  | cons x r ih =>
    obtain ⟨h1, h2⟩ := List.pairwise_cons.1 h
    rcases List.mem_cons.1 hp with hp' | hp' <;> rcases List.mem_cons.1 hq with hq' | hq'
    · rw [hp', hq']
    · have := h1 q hq'; rw [← hp', e] at this; exact absurd this (str_irr _)
    · have := h1 p hp'; rw [← hq', e] at this; exact absurd this (str_irr _)
    · exact ih h2 hp' hq'
theorem mem_mid {s : Str} {n : Int} {p : Str × Int} (h : p ∈ (if 0 < n then [(s, n)] else [])) : p = (s, n) ∧ 0 < n := by
  by_cases hn : 0 < n
  · rw [if_pos hn] at h; exact ⟨by simpa using h, hn⟩
  · rw [if_neg hn] at h; cases h
theorem setF_mem {L : Its} {s : Str} {n : Int} {p : Str × Int} (h : p ∈ setF L s n) : (p ∈ L ∧ p.1 ≠ s) ∨ (p = (s, n) ∧ 0 < n) := by
  unfold setF at h
  rcases List.mem_append.1 h with h | h
  · obtain ⟨h1, h2⟩ := List.mem_filter.1 h
    exact .inl ⟨h1, fun e => by simp [e, str_irr] at h2⟩
  · rcases List.mem_append.1 h with h | h
    · exact .inr (mem_mid h)
    · obtain ⟨h1, h2⟩ := List.mem_filter.1 h
      exact .inl ⟨h1, fun e => by simp [e, str_irr] at h2⟩
theorem setF_rise {L : Its} {s : Str} {n : Int} (h : RiseI L) : RiseI (setF L s n) := by
  have hm : RiseI (if 0 < n then [(s, n)] else []) := by
    by_cases hn : 0 < n
    · rw [if_pos hn]; exact List.pairwise_cons.2 ⟨fun _ h => (List.not_mem_nil h).elim, List.Pairwise.nil⟩
    · rw [if_neg hn]; exact List.Pairwise.nil
  refine List.pairwise_append.2 ⟨h.filter _, List.pairwise_append.2 ⟨hm, h.filter _, fun p hp q hq => ?_⟩, fun p hp q hq => ?_⟩
  · rw [(mem_mid hp).1]
    exact of_decide_eq_true (List.mem_filter.1 hq).2
  · have h1 : p.1 < s := of_decide_eq_true (List.mem_filter.1 hp).2
    rcases List.mem_append.1 hq with hq | hq
    · rw [(mem_mid hq).1]; exact h1
    · exact str_trans h1 (of_decide_eq_true (List.mem_filter.1 hq).2)
theorem filt_part (L : Its) (s : Str) : (L.filter (fun p => decide (p.1 < s)) ++ L.filter (fun p => decide (s < p.1))).Perm (L.filter fun p => !decide (p.1 = s)) := by
  have h := List.filter_append_perm (fun p : Str × Int => decide (p.1 < s)) (L.filter fun p => !decide (p.1 = s))
  rw [List.filter_filter, List.filter_filter] at h
  have e1 : (L.filter fun a => decide (a.1 < s) && !decide (a.1 = s)) = L.filter (fun p => decide (p.1 < s)) := List.filter_congr fun p _ => by
    by_cases h : p.1 < s
    · have : p.1 ≠ s := fun e => str_irr s (e ▸ h)
      simp [h, this]
    · simp [h]
  have e2 : (L.filter fun a => !decide (a.1 < s) && !decide (a.1 = s)) = L.filter (fun p => decide (s < p.1)) := List.filter_congr fun p _ => by
    rcases str_tri p.1 s with h | h | h
    · have : ¬ s < p.1 := str_asym h
      simp [h, this]
    · simp [h, str_irr]
    · have h1 : ¬ p.1 < s := str_asym h
      have h2 : p.1 ≠ s := fun e => str_irr s (e ▸ h)
      simp [h, h1, h2]
  rw [e1, e2] at h
  exact h
theorem setF_perm (L : Its) (s : Str) (n : Int) : (setF L s n).Perm ((L.filter fun p => !decide (p.1 = s)) ++ (if 0 < n then [(s, n)] else [])) := by
  unfold setF
  refine (List.Perm.append_left _ List.perm_append_comm).trans ?_
  rw [← List.append_assoc]
  exact List.Perm.append_right _ (filt_part L s)
theorem setF_uniq {L Z : Its} {s : Str} {n : Int} (h : RiseI L) (hp : Z.Perm ((L.filter fun p => !decide (p.1 = s)) ++ (if 0 < n then [(s, n)] else []))) (hs : Z.Pairwise (fun x y => ¬ y.1 < x.1)) : Z = setF L s n := by
  have hr := setF_rise (s := s) (n := n) h
  have hpp := hp.trans (setF_perm L s n).symm
  refine List.Perm.eq_of_pairwise (le := fun x y => ¬ y.1 < x.1) (fun a b ha hb h1 h2 => ?_) hs (hr.imp (fun h => str_asym h)) hpp
  have e : a.1 = b.1 := by
    rcases str_tri a.1 b.1 with h | h | h
    · exact absurd h h2
    · exact h
    · exact absurd h h1
  exact riseI_inj hr (hpp.mem_iff.1 ha) hb e
end Go.Proofs.YtlniekobijcanaaGreat
namespace Go.Proofs.YtlniekobijcanaaGreat
open Go.ChangeShapes Go.WideShapes Go.ChangeAt Go.RowKit
theorem own : ownKnob Tryz.prog.godebug = none := by kernel_rfl
theorem laidOut : laidOutB Tryz.prog = true := by kernel_rfl
section
variable {H : Type} {enc : TypeId × Value → H} {P : Program}
theorem trodAll_below {W W' : World} (hl : laidOutB P = true) (hb : Below W.heap.size W W') : ∀ {ts : List TypeId} {vs : List Value} {ds : List (DataW H)} {ps : List MemPlace} {sp : Nat → Bool},
    (∀ t ∈ ts, (P.readableRec t && decide (t < P.types.size)) = true) → DataW.TrodAll enc P W 0 (fun _ => true) true ts vs ds ps → (∀ p ∈ ps, p.block < W.heap.size) → (∀ p ∈ ps, sp p.block = true) →
    DataW.TrodAll enc P W' 0 sp true ts vs ds ps
  | [], vs, ds, ps, sp, _, h, _, _ => by
    cases vs <;> cases ds <;> exact h
  | t :: ts, vs, ds, ps, sp, hr, h, hlt, hsp => by
    obtain ⟨v, vs', d, ds', p, q, rfl, rfl, rfl, h1, h2⟩ := trodAll_cons h
    have ht := hr t (by simp)
    simp only [Bool.and_eq_true, decide_eq_true_eq] at ht
    exact ⟨p, q, WideElems.Trod_stays hl ht.1 ht.2 h1 (fun x hx => hb.same (hlt x (by simp [hx]))) (fun x hx => hsp x (by simp [hx])),
      trodAll_below hl hb (fun t ht => hr t (by simp [ht])) h2 (fun x hx => hlt x (by simp [hx])) (fun x hx => hsp x (by simp [hx])), rfl⟩
/-- The row's last step for a law, whatever its parameters. -/
theorem law_post {f : Func} {s : ChangeSpec} {W W' : World} {args : Array Value} {ds gs : List (DataW H)} {before : List MemPlace} {tb : TypeId}
    (hl : laidOutB P = true) (hread : (f.params.toList.all fun t => P.readableRec t && decide (t < P.types.size)) = true) (hr : f.resultTypes = #[tb]) (htb : P.underlying tb = some .bool)
    (hW : DataW.Whole enc P f.params.toList s.vars false W args.toList ds gs before) (hvars : s.vars = []) (hfn : s.fn H ds = { results := [.lit (.bool true)], args := ds })
    (hb : Below W.heap.size W W') : s.post enc P f false true false false W args (.bool true) W' := by
  have hlt : ∀ p ∈ before, p.block < W.heap.size := fun p hp => hW.lt p hp
  have hW' := hW
  obtain ⟨p, q, hA, hV, he, hz, hn⟩ := hW
  rw [hvars] at hV
  obtain ⟨rfl, rfl⟩ := trodVars_none hV
  rw [List.append_nil] at he
  subst he
  have e1 : s.fn H (ds ++ []) = { results := [.lit (.bool true)], args := ds } := by rw [List.append_nil]; exact hfn
  refine ⟨ds, [], before, [], before, [], hW', ?_, ?_, ?_, World.keptBut_mono (fun x hx => ⟨hx, .inr (.inl hx)⟩) (hb.frame (· ∈ before)), fun h => by cases h⟩
  · rw [e1, hr]
    exact trodAll_cons_mk (shut_bool htb true) trodAll_mk0
  · rw [e1]
    exact trodAll_below hl hb (List.all_eq_true.1 hread) hA hlt (fun x hx => by simpa using hlt x hx)
  · rw [e1, hvars]
    exact rfl
end
end Go.Proofs.YtlniekobijcanaaGreat
