/- cells.First: a number read. -/
import Derived.Test.YtakjiicnbocjeaaIdDoesM3
import Derived.Test.YtakjiicnbocjeaaIdDoesM4
import Derived.Laws.BytesArg
namespace Go.Proofs.Ytakjiicnbocjeaa
open Go.RowKit Go.Maps
def dSize (h : Int) : Int := if 144 ≤ h then h - 144 else h - 128
def dTurn (h : Int) : Int := if 144 ≤ h then 18446744073709551615 else 0
def dStep (u c : Int) : Int := bits .or .u64 (IntKind.u64.wrap (u * 256)) c
def dU (l : List Int) : Int := l.foldl dStep 0
def dN (h : Int) (l : List Int) : Int := wrap64 (bits .xor .u64 (dU l) (dTurn h))
/-- The number with whose cell bytes begin. -/
def firstB (bs : List Int) : Option (Int × Nat) :=
  match bs with
  | [] => none
  | h :: r => if h < 128 then some (h, 1) else if 8 < dSize h ∨ (r.length : Int) < dSize h then none
    else if numB (dN h (r.take (dSize h).toNat)) = h :: r.take (dSize h).toNat then some (dN h (r.take (dSize h).toNat), 1 + (dSize h).toNat) else none
theorem dU_succ {l : List Int} {k : Nat} {x : Int} (h : l[k]? = some x) : dU (l.take (k + 1)) = dStep (dU (l.take k)) x := by
  unfold dU
  rw [List.take_add_one, h, List.foldl_append]; rfl
def firstV (o : Option (Int × Nat)) : Value := match o with
  | some (n, k) => .tuple #[.int .i64 n, .int .i64 k, .int .i64 0]
  | none => .tuple #[.int .i64 0, .int .i64 0, .int .i64 10]
set_option maxRecDepth 100000 in
set_option maxHeartbeats 4000000 in
theorem cFirst (w : World) (v : Value) (bs : List Int) (h : Bs w v bs) (hcap : ∀ a n c, v = .slice a n c → n ≤ c) : Calls Try.prog 61 #[v] w fun e w' => e = .returned (firstV (firstB bs)) ∧ Below w.heap.size w w' := by
  obtain ⟨hlen, a, c, rfl, hx⟩ := id h
  cases bs with
  | nil =>
    clear h hx
    unfold firstB firstV
    dsimp only
    go_enter Try.func61, Try.ntmps61
    go_wp2
    go_returns
    exact ⟨rfl, Below.refl _ _⟩
  | cons hd r =>
    obtain ⟨h0, h1, ad, rfl, hc⟩ := hx 0 hd rfl
    have hc0 : w.cell? ad = some (.int .u8 hd) := by have := hc; unfold Addr.add at this; simpa using this
    obtain ⟨n, hn⟩ : ∃ n, r.length = n := ⟨_, rfl⟩
    have HN := Lib.hid hn
    have hl : (hd :: r).length = n + 1 := by rw [List.length_cons, hn]
    rw [hl] at hlen h ⊢
    by_cases hs : hd < 128
    · have e : firstB (hd :: r) = some (hd, 1) := by simp [firstB, hs]
      rw [e]
      unfold firstV
      dsimp only
      clear hx h hl hn e
      go_enter Try.func61, Try.ntmps61
      go_wp2
      go_returns
      exact ⟨rfl, Below.refl _ _⟩
    · have hcn : n + 1 ≤ c := by rw [← hl]; exact hcap _ _ _ (by rw [hl])
      have hbyte : ∀ x ∈ r, 0 ≤ x ∧ x < 256 := fun x hxr => by
        obtain ⟨i, hi, rfl⟩ := List.getElem_of_mem hxr
        obtain ⟨z0, z1, _⟩ := hx (i + 1) r[i] (by simp)
        exact ⟨z0, z1⟩
      have hcell : ∀ (i : Nat) (x : Int), r[i]? = some x → w.cell? (ad.add (1 + i)) = some (.int .u8 x) := fun i x hi => by
        obtain ⟨_, _, ad', e, hc⟩ := hx (i + 1) x (by simpa using hi)
        cases e
        rw [Nat.add_comm]; exact hc
      have HB := Lib.hid hbyte; have HC := Lib.hid hcell; have HH := Lib.hid h
      obtain ⟨S, hS⟩ : ∃ S, dSize hd = S := ⟨_, rfl⟩
      obtain ⟨T, hT⟩ : ∃ T, dTurn hd = T := ⟨_, rfl⟩
      have HS := Lib.hid hS; have HT := Lib.hid hT
      have hS0 : 0 ≤ S := by rw [← hS]; unfold dSize; split <;> omega
      by_cases hbad : 8 < S ∨ (n : Int) < S
      · have e : firstB (hd :: r) = none := by
          have := HN.out
          simp only [firstB, hs, if_false, hS]
          rw [if_pos (by rw [this]; exact hbad)]
        rw [e]
        unfold firstV
        dsimp only
        clear hbyte hcell hx h hl hn e hT hcap
        rcases (by omega : 8 < S ∨ S ≤ 8 ∧ (n : Int) < S) with hb1 | ⟨hb1, hb2⟩ <;> rcases (by omega : 144 ≤ hd ∨ hd < 144) with hh | hh
        all_goals
          first
          | (have hSe : S = hd - 144 := by rw [← hS]; unfold dSize; rw [if_pos hh])
          | (have hSe : S = hd - 128 := by rw [← hS]; unfold dSize; rw [if_neg (by omega)])
          clear hS hbad
          subst hSe
          go_enter Try.func61, Try.ntmps61
          go_wp2
          go_returns
          exact ⟨rfl, Below.refl _ _⟩
      · obtain ⟨m, rfl⟩ : ∃ m : Nat, S = m := ⟨S.toNat, by omega⟩
        have hm8 : (m : Int) ≤ 8 := by omega
        have hmn : (m : Int) ≤ n := by omega
        have e : firstB (hd :: r) = if numB (dN hd (r.take m)) = hd :: r.take m then some (dN hd (r.take m), 1 + m) else none := by
          have := HN.out
          simp only [firstB, hs, if_false, hS, Int.toNat_natCast]
          rw [if_neg (by rw [this]; exact hbad)]
        obtain ⟨N, hN⟩ : ∃ N, dN hd (r.take m) = N := ⟨_, rfl⟩
        have hdn : wrap64 (bits .xor .u64 (dU (r.take m)) T) = N := by rw [← hN]; unfold dN; rw [hT]
        have hNk : okI N := by rw [← hN]; unfold dN wrap64 okI; omega
        rw [e, hN]
        have HDN := Lib.hid hdn; have HNK := Lib.hid hNk
        clear hN hNk
        have hl8 : ((r.take m).length : Nat) = m := by rw [List.length_take]; have := HN.out; omega
        have HL8 := Lib.hid hl8
        clear e hdn hx hbyte hcell hl8
        have htake : ∀ (h' : Int), Bs w (.slice (some ad) (n + 1) c) (h' :: r) → Bs w (.slice (some ad) (1 + m) c) (h' :: r.take m) := fun h' hb => by
          have := hb.take (k := 1 + m) (by omega)
          rw [Nat.add_comm 1 m, List.take_succ_cons] at this
          rw [Nat.add_comm 1 m]; exact this
        have HTK := Lib.hid (htake hd h)
        clear htake
        have hbytes : ∀ x ∈ hd :: r.take m, 0 ≤ x ∧ x < 256 := fun x hx => by
          rcases List.mem_cons.1 hx with rfl | hx
          · exact ⟨h0, h1⟩
          · exact HB.out x (List.mem_of_mem_take hx)
        have hiff : strOfNums (numB N) = strOfNums (hd :: r.take m) ↔ numB N = hd :: r.take m := ⟨fun e => strOf_inj (fun x hx => numB_mem HNK.out hx) hbytes e, fun e => by rw [e]⟩
        obtain ⟨sa, hsa⟩ : ∃ x, strOfNums (numB N) = x := ⟨_, rfl⟩
        obtain ⟨sb, hsb⟩ : ∃ x, strOfNums (hd :: r.take m) = x := ⟨_, rfl⟩
        rw [hsa, hsb] at hiff
        have HIFF := Lib.hid hiff; have HSA := Lib.hid hsa; have HSB := Lib.hid hsb
        clear hiff hbytes hsa hsb
        rcases (by omega : 144 ≤ hd ∨ hd < 144) with hh | hh
        · have hde : hd = (m : Int) + 144 := by have := hS; unfold dSize at this; rw [if_pos hh] at this; omega
          have hTe : T = 18446744073709551615 := by rw [← hT]; unfold dTurn; rw [if_pos hh]
          clear hS hT HS HT hbad h hn hl hcap
          subst hTe
          subst hde
          by_cases hc1 : c = 1
          · subst hc1
            rcases Decidable.em (sa = sb) with heq | hne
            · skip
              have hv : (if numB N = ((m : Int) + 144) :: r.take m then some (N, 1 + m) else none) = some (N, 1 + m) := if_pos (HIFF.out.1 heq)
              rw [hv]
              clear hv
              subst heq
              unfold firstV
              dsimp only
              go_enter Try.func61, Try.ntmps61
              go_wp2_with fail
              go_loopw [8, 41] (fun u i wr => ∃ k : Nat, (k : Int) ≤ m ∧ u = .int .u64 (dU (r.take k)) ∧ i = .int .i64 k ∧ wr = w) (fun _ i _ => m - (intOf i).toNat)
              case atStart => exact ⟨0, by omega, rfl, rfl, rfl⟩
              case round =>
                obtain ⟨k, hk, rfl, rfl, rfl⟩ := hrel
                by_cases hkm : (k : Int) < m
                · exact absurd hkm (by omega)
                · have hke : k = m := by omega
                  subst hke
                  clear hkm hk
                  go_wp2_with fail
                  rw [HDN.out]
                  have hc2 := Lib.hid (cNum wr.drew N HNK.out)
                  have hq0 := (HTK.out.fr (Fr.refl (fun _ => False) _).drew (fun _ h => h.elim)).string
                  rw [HSB.out] at hq0
                  have hb1 : (1 : Int) + (k : Int) ≤ 1 := by omega
                  have hb0 : (0 : Int) ≤ 1 + (k : Int) := by omega
                  have hwr : IntKind.i64.wrap (1 + (k : Int)) = 1 + (k : Int) := by rw [IntKind.wrap_i64]; omega
                  have htn : (1 + (k : Int)).toNat = 1 + k := by omega
                  go_region_with (go_at_call 53; refine hc2.out.mono ?_; rintro e w1 ⟨v, rfl, hb, hB⟩; have hv1 := hb.1.string; rw [HSA.out] at hv1; have hq1 := ((HTK.out.fr (Fr.refl (fun _ => False) _).drew (fun _ h => h.elim)).fr (Fr.below (S := fun _ => False) hB) (fun _ h => h.elim)).string; rw [HSB.out] at hq1; have HBB := Lib.hid hB; clear hb hB)
                  all_goals
                    go_wp2_with fail
                    go_returns
                    exact ⟨rfl, ((Below.refl _ _).drew).trans HBB.out⟩
            · skip
              have hv : (if numB N = ((m : Int) + 144) :: r.take m then some (N, 1 + m) else none) = none := if_neg (fun e => hne (HIFF.out.2 e))
              rw [hv]
              clear hv
              have hbne : (sa.toList == sb.toList) = false := strNe hne
              unfold firstV
              dsimp only
              go_enter Try.func61, Try.ntmps61
              go_wp2_with fail
              go_loopw [8, 41] (fun u i wr => ∃ k : Nat, (k : Int) ≤ m ∧ u = .int .u64 (dU (r.take k)) ∧ i = .int .i64 k ∧ wr = w) (fun _ i _ => m - (intOf i).toNat)
              case atStart => exact ⟨0, by omega, rfl, rfl, rfl⟩
              case round =>
                obtain ⟨k, hk, rfl, rfl, rfl⟩ := hrel
                by_cases hkm : (k : Int) < m
                · exact absurd hkm (by omega)
                · have hke : k = m := by omega
                  subst hke
                  clear hkm hk
                  go_wp2_with fail
                  rw [HDN.out]
                  have hc2 := Lib.hid (cNum wr.drew N HNK.out)
                  have hq0 := (HTK.out.fr (Fr.refl (fun _ => False) _).drew (fun _ h => h.elim)).string
                  rw [HSB.out] at hq0
                  have hb1 : (1 : Int) + (k : Int) ≤ 1 := by omega
                  have hb0 : (0 : Int) ≤ 1 + (k : Int) := by omega
                  have hwr : IntKind.i64.wrap (1 + (k : Int)) = 1 + (k : Int) := by rw [IntKind.wrap_i64]; omega
                  have htn : (1 + (k : Int)).toNat = 1 + k := by omega
                  go_region_with (go_at_call 53; refine hc2.out.mono ?_; rintro e w1 ⟨v, rfl, hb, hB⟩; have hv1 := hb.1.string; rw [HSA.out] at hv1; have hq1 := ((HTK.out.fr (Fr.refl (fun _ => False) _).drew (fun _ h => h.elim)).fr (Fr.below (S := fun _ => False) hB) (fun _ h => h.elim)).string; rw [HSB.out] at hq1; have HBB := Lib.hid hB; clear hb hB)
                  all_goals
                    go_wp2_with fail
                    go_returns
                    exact ⟨rfl, ((Below.refl _ _).drew).trans HBB.out⟩
          · skip
            rcases Decidable.em (sa = sb) with heq | hne
            · skip
              have hv : (if numB N = ((m : Int) + 144) :: r.take m then some (N, 1 + m) else none) = some (N, 1 + m) := if_pos (HIFF.out.1 heq)
              rw [hv]
              clear hv
              subst heq
              unfold firstV
              dsimp only
              go_enter Try.func61, Try.ntmps61
              go_wp2_with fail
              go_loopw [8, 41] (fun u i wr => ∃ k : Nat, (k : Int) ≤ m ∧ u = .int .u64 (dU (r.take k)) ∧ i = .int .i64 k ∧ wr = w) (fun _ i _ => m - (intOf i).toNat)
              case atStart => exact ⟨0, by omega, rfl, rfl, rfl⟩
              case round =>
                obtain ⟨k, hk, rfl, rfl, rfl⟩ := hrel
                by_cases hkm : (k : Int) < m
                · obtain ⟨x, hx⟩ : ∃ x, r[k]? = some x := ⟨r[k]'(by have := HN.out; omega), List.getElem?_eq_getElem _⟩
                  have hcx := HC.out k x hx
                  obtain ⟨x0, x1⟩ := HB.out x (List.mem_of_getElem? hx)
                  have hcx : wr.cell? ⟨ad.block, ad.off + 1 + k, none⟩ = some (.int .u8 x) := by
                    rw [← hcx]
                    unfold Addr.add
                    rw [if_neg (by omega)]
                    congr 2; omega
                  have HU := Lib.hid (dU_succ hx)
                  generalize dU (r.take k) = u at *
                  clear hx
                  go_wp2
                  go_roundw
                  case rel => exact ⟨k + 1, by omega, by rw [HU.out]; rfl, by go_num, by trivial⟩
                  case measure => simp [intOf]; omega
                · have hke : k = m := by omega
                  subst hke
                  clear hkm hk
                  go_wp2_with fail
                  rw [HDN.out]
                  have hc2 := Lib.hid (cNum wr.drew N HNK.out)
                  have hq0 := (HTK.out.fr (Fr.refl (fun _ => False) _).drew (fun _ h => h.elim)).string
                  rw [HSB.out] at hq0
                  have hb1 : (1 : Int) + (k : Int) ≤ (c : Int) := by omega
                  have hb0 : (0 : Int) ≤ 1 + (k : Int) := by omega
                  have hb3 : ¬ c = 0 := by omega
                  have hwr : IntKind.i64.wrap (1 + (k : Int)) = 1 + (k : Int) := by rw [IntKind.wrap_i64]; omega
                  have htn : (1 + (k : Int)).toNat = 1 + k := by omega
                  go_region_with (go_at_call 53; refine hc2.out.mono ?_; rintro e w1 ⟨v, rfl, hb, hB⟩; have hv1 := hb.1.string; rw [HSA.out] at hv1; have hq1 := ((HTK.out.fr (Fr.refl (fun _ => False) _).drew (fun _ h => h.elim)).fr (Fr.below (S := fun _ => False) hB) (fun _ h => h.elim)).string; rw [HSB.out] at hq1; have HBB := Lib.hid hB; clear hb hB)
                  all_goals
                    go_wp2_with fail
                    go_returns
                    exact ⟨rfl, ((Below.refl _ _).drew).trans HBB.out⟩
            · skip
              have hv : (if numB N = ((m : Int) + 144) :: r.take m then some (N, 1 + m) else none) = none := if_neg (fun e => hne (HIFF.out.2 e))
              rw [hv]
              clear hv
              have hbne : (sa.toList == sb.toList) = false := strNe hne
              unfold firstV
              dsimp only
              go_enter Try.func61, Try.ntmps61
              go_wp2_with fail
              go_loopw [8, 41] (fun u i wr => ∃ k : Nat, (k : Int) ≤ m ∧ u = .int .u64 (dU (r.take k)) ∧ i = .int .i64 k ∧ wr = w) (fun _ i _ => m - (intOf i).toNat)
              case atStart => exact ⟨0, by omega, rfl, rfl, rfl⟩
              case round =>
                obtain ⟨k, hk, rfl, rfl, rfl⟩ := hrel
                by_cases hkm : (k : Int) < m
                · obtain ⟨x, hx⟩ : ∃ x, r[k]? = some x := ⟨r[k]'(by have := HN.out; omega), List.getElem?_eq_getElem _⟩
                  have hcx := HC.out k x hx
                  obtain ⟨x0, x1⟩ := HB.out x (List.mem_of_getElem? hx)
                  have hcx : wr.cell? ⟨ad.block, ad.off + 1 + k, none⟩ = some (.int .u8 x) := by
                    rw [← hcx]
                    unfold Addr.add
                    rw [if_neg (by omega)]
                    congr 2; omega
                  have HU := Lib.hid (dU_succ hx)
                  generalize dU (r.take k) = u at *
                  clear hx
                  go_wp2
                  go_roundw
                  case rel => exact ⟨k + 1, by omega, by rw [HU.out]; rfl, by go_num, by trivial⟩
                  case measure => simp [intOf]; omega
                · have hke : k = m := by omega
                  subst hke
                  clear hkm hk
                  go_wp2_with fail
                  rw [HDN.out]
                  have hc2 := Lib.hid (cNum wr.drew N HNK.out)
                  have hq0 := (HTK.out.fr (Fr.refl (fun _ => False) _).drew (fun _ h => h.elim)).string
                  rw [HSB.out] at hq0
                  have hb1 : (1 : Int) + (k : Int) ≤ (c : Int) := by omega
                  have hb0 : (0 : Int) ≤ 1 + (k : Int) := by omega
                  have hb3 : ¬ c = 0 := by omega
                  have hwr : IntKind.i64.wrap (1 + (k : Int)) = 1 + (k : Int) := by rw [IntKind.wrap_i64]; omega
                  have htn : (1 + (k : Int)).toNat = 1 + k := by omega
                  go_region_with (go_at_call 53; refine hc2.out.mono ?_; rintro e w1 ⟨v, rfl, hb, hB⟩; have hv1 := hb.1.string; rw [HSA.out] at hv1; have hq1 := ((HTK.out.fr (Fr.refl (fun _ => False) _).drew (fun _ h => h.elim)).fr (Fr.below (S := fun _ => False) hB) (fun _ h => h.elim)).string; rw [HSB.out] at hq1; have HBB := Lib.hid hB; clear hb hB)
                  all_goals
                    go_wp2_with fail
                    go_returns
                    exact ⟨rfl, ((Below.refl _ _).drew).trans HBB.out⟩
        · have hde : hd = (m : Int) + 128 := by have := hS; unfold dSize at this; rw [if_neg (by omega)] at this; omega
          have hTe : T = 0 := by rw [← hT]; unfold dTurn; rw [if_neg (by omega)]
          clear hS hT HS HT hbad h hn hl hcap
          subst hTe
          subst hde
          by_cases hc1 : c = 1
          · subst hc1
            rcases Decidable.em (sa = sb) with heq | hne
            · skip
              have hv : (if numB N = ((m : Int) + 128) :: r.take m then some (N, 1 + m) else none) = some (N, 1 + m) := if_pos (HIFF.out.1 heq)
              rw [hv]
              clear hv
              subst heq
              unfold firstV
              dsimp only
              go_enter Try.func61, Try.ntmps61
              go_wp2_with fail
              go_loopw [8, 41] (fun u i wr => ∃ k : Nat, (k : Int) ≤ m ∧ u = .int .u64 (dU (r.take k)) ∧ i = .int .i64 k ∧ wr = w) (fun _ i _ => m - (intOf i).toNat)
              case atStart => exact ⟨0, by omega, rfl, rfl, rfl⟩
              case round =>
                obtain ⟨k, hk, rfl, rfl, rfl⟩ := hrel
                by_cases hkm : (k : Int) < m
                · exact absurd hkm (by omega)
                · have hke : k = m := by omega
                  subst hke
                  clear hkm hk
                  go_wp2_with fail
                  rw [HDN.out]
                  have hc2 := Lib.hid (cNum wr.drew N HNK.out)
                  have hq0 := (HTK.out.fr (Fr.refl (fun _ => False) _).drew (fun _ h => h.elim)).string
                  rw [HSB.out] at hq0
                  have hb1 : (1 : Int) + (k : Int) ≤ 1 := by omega
                  have hb0 : (0 : Int) ≤ 1 + (k : Int) := by omega
                  have hwr : IntKind.i64.wrap (1 + (k : Int)) = 1 + (k : Int) := by rw [IntKind.wrap_i64]; omega
                  have htn : (1 + (k : Int)).toNat = 1 + k := by omega
                  go_region_with (go_at_call 53; refine hc2.out.mono ?_; rintro e w1 ⟨v, rfl, hb, hB⟩; have hv1 := hb.1.string; rw [HSA.out] at hv1; have hq1 := ((HTK.out.fr (Fr.refl (fun _ => False) _).drew (fun _ h => h.elim)).fr (Fr.below (S := fun _ => False) hB) (fun _ h => h.elim)).string; rw [HSB.out] at hq1; have HBB := Lib.hid hB; clear hb hB)
                  all_goals
                    go_wp2_with fail
                    go_returns
                    exact ⟨rfl, ((Below.refl _ _).drew).trans HBB.out⟩
            · skip
              have hv : (if numB N = ((m : Int) + 128) :: r.take m then some (N, 1 + m) else none) = none := if_neg (fun e => hne (HIFF.out.2 e))
              rw [hv]
              clear hv
              have hbne : (sa.toList == sb.toList) = false := strNe hne
              unfold firstV
              dsimp only
              go_enter Try.func61, Try.ntmps61
              go_wp2_with fail
              go_loopw [8, 41] (fun u i wr => ∃ k : Nat, (k : Int) ≤ m ∧ u = .int .u64 (dU (r.take k)) ∧ i = .int .i64 k ∧ wr = w) (fun _ i _ => m - (intOf i).toNat)
              case atStart => exact ⟨0, by omega, rfl, rfl, rfl⟩
              case round =>
                obtain ⟨k, hk, rfl, rfl, rfl⟩ := hrel
                by_cases hkm : (k : Int) < m
                · exact absurd hkm (by omega)
                · have hke : k = m := by omega
                  subst hke
                  clear hkm hk
                  go_wp2_with fail
                  rw [HDN.out]
                  have hc2 := Lib.hid (cNum wr.drew N HNK.out)
                  have hq0 := (HTK.out.fr (Fr.refl (fun _ => False) _).drew (fun _ h => h.elim)).string
                  rw [HSB.out] at hq0
                  have hb1 : (1 : Int) + (k : Int) ≤ 1 := by omega
                  have hb0 : (0 : Int) ≤ 1 + (k : Int) := by omega
                  have hwr : IntKind.i64.wrap (1 + (k : Int)) = 1 + (k : Int) := by rw [IntKind.wrap_i64]; omega
                  have htn : (1 + (k : Int)).toNat = 1 + k := by omega
                  go_region_with (go_at_call 53; refine hc2.out.mono ?_; rintro e w1 ⟨v, rfl, hb, hB⟩; have hv1 := hb.1.string; rw [HSA.out] at hv1; have hq1 := ((HTK.out.fr (Fr.refl (fun _ => False) _).drew (fun _ h => h.elim)).fr (Fr.below (S := fun _ => False) hB) (fun _ h => h.elim)).string; rw [HSB.out] at hq1; have HBB := Lib.hid hB; clear hb hB)
                  all_goals
                    go_wp2_with fail
                    go_returns
                    exact ⟨rfl, ((Below.refl _ _).drew).trans HBB.out⟩
          · skip
            rcases Decidable.em (sa = sb) with heq | hne
            · skip
              have hv : (if numB N = ((m : Int) + 128) :: r.take m then some (N, 1 + m) else none) = some (N, 1 + m) := if_pos (HIFF.out.1 heq)
              rw [hv]
              clear hv
              subst heq
              unfold firstV
              dsimp only
              go_enter Try.func61, Try.ntmps61
              go_wp2_with fail
              go_loopw [8, 41] (fun u i wr => ∃ k : Nat, (k : Int) ≤ m ∧ u = .int .u64 (dU (r.take k)) ∧ i = .int .i64 k ∧ wr = w) (fun _ i _ => m - (intOf i).toNat)
              case atStart => exact ⟨0, by omega, rfl, rfl, rfl⟩
              case round =>
                obtain ⟨k, hk, rfl, rfl, rfl⟩ := hrel
                by_cases hkm : (k : Int) < m
                · obtain ⟨x, hx⟩ : ∃ x, r[k]? = some x := ⟨r[k]'(by have := HN.out; omega), List.getElem?_eq_getElem _⟩
                  have hcx := HC.out k x hx
                  obtain ⟨x0, x1⟩ := HB.out x (List.mem_of_getElem? hx)
                  have hcx : wr.cell? ⟨ad.block, ad.off + 1 + k, none⟩ = some (.int .u8 x) := by
                    rw [← hcx]
                    unfold Addr.add
                    rw [if_neg (by omega)]
                    congr 2; omega
                  have HU := Lib.hid (dU_succ hx)
                  generalize dU (r.take k) = u at *
                  clear hx
                  go_wp2
                  go_roundw
                  case rel => exact ⟨k + 1, by omega, by rw [HU.out]; rfl, by go_num, by trivial⟩
                  case measure => simp [intOf]; omega
                · have hke : k = m := by omega
                  subst hke
                  clear hkm hk
                  go_wp2_with fail
                  rw [HDN.out]
                  have hc2 := Lib.hid (cNum wr.drew N HNK.out)
                  have hq0 := (HTK.out.fr (Fr.refl (fun _ => False) _).drew (fun _ h => h.elim)).string
                  rw [HSB.out] at hq0
                  have hb1 : (1 : Int) + (k : Int) ≤ (c : Int) := by omega
                  have hb0 : (0 : Int) ≤ 1 + (k : Int) := by omega
                  have hb3 : ¬ c = 0 := by omega
                  have hwr : IntKind.i64.wrap (1 + (k : Int)) = 1 + (k : Int) := by rw [IntKind.wrap_i64]; omega
                  have htn : (1 + (k : Int)).toNat = 1 + k := by omega
                  go_region_with (go_at_call 53; refine hc2.out.mono ?_; rintro e w1 ⟨v, rfl, hb, hB⟩; have hv1 := hb.1.string; rw [HSA.out] at hv1; have hq1 := ((HTK.out.fr (Fr.refl (fun _ => False) _).drew (fun _ h => h.elim)).fr (Fr.below (S := fun _ => False) hB) (fun _ h => h.elim)).string; rw [HSB.out] at hq1; have HBB := Lib.hid hB; clear hb hB)
                  all_goals
                    go_wp2_with fail
                    go_returns
                    exact ⟨rfl, ((Below.refl _ _).drew).trans HBB.out⟩
            · skip
              have hv : (if numB N = ((m : Int) + 128) :: r.take m then some (N, 1 + m) else none) = none := if_neg (fun e => hne (HIFF.out.2 e))
              rw [hv]
              clear hv
              have hbne : (sa.toList == sb.toList) = false := strNe hne
              unfold firstV
              dsimp only
              go_enter Try.func61, Try.ntmps61
              go_wp2_with fail
              go_loopw [8, 41] (fun u i wr => ∃ k : Nat, (k : Int) ≤ m ∧ u = .int .u64 (dU (r.take k)) ∧ i = .int .i64 k ∧ wr = w) (fun _ i _ => m - (intOf i).toNat)
              case atStart => exact ⟨0, by omega, rfl, rfl, rfl⟩
              case round =>
                obtain ⟨k, hk, rfl, rfl, rfl⟩ := hrel
                by_cases hkm : (k : Int) < m
                · obtain ⟨x, hx⟩ : ∃ x, r[k]? = some x := ⟨r[k]'(by have := HN.out; omega), List.getElem?_eq_getElem _⟩
                  have hcx := HC.out k x hx
                  obtain ⟨x0, x1⟩ := HB.out x (List.mem_of_getElem? hx)
                  have hcx : wr.cell? ⟨ad.block, ad.off + 1 + k, none⟩ = some (.int .u8 x) := by
                    rw [← hcx]
                    unfold Addr.add
                    rw [if_neg (by omega)]
                    congr 2; omega
                  have HU := Lib.hid (dU_succ hx)
                  generalize dU (r.take k) = u at *
                  clear hx
                  go_wp2
                  go_roundw
                  case rel => exact ⟨k + 1, by omega, by rw [HU.out]; rfl, by go_num, by trivial⟩
                  case measure => simp [intOf]; omega
                · have hke : k = m := by omega
                  subst hke
                  clear hkm hk
                  go_wp2_with fail
                  rw [HDN.out]
                  have hc2 := Lib.hid (cNum wr.drew N HNK.out)
                  have hq0 := (HTK.out.fr (Fr.refl (fun _ => False) _).drew (fun _ h => h.elim)).string
                  rw [HSB.out] at hq0
                  have hb1 : (1 : Int) + (k : Int) ≤ (c : Int) := by omega
                  have hb0 : (0 : Int) ≤ 1 + (k : Int) := by omega
                  have hb3 : ¬ c = 0 := by omega
                  have hwr : IntKind.i64.wrap (1 + (k : Int)) = 1 + (k : Int) := by rw [IntKind.wrap_i64]; omega
                  have htn : (1 + (k : Int)).toNat = 1 + k := by omega
                  go_region_with (go_at_call 53; refine hc2.out.mono ?_; rintro e w1 ⟨v, rfl, hb, hB⟩; have hv1 := hb.1.string; rw [HSA.out] at hv1; have hq1 := ((HTK.out.fr (Fr.refl (fun _ => False) _).drew (fun _ h => h.elim)).fr (Fr.below (S := fun _ => False) hB) (fun _ h => h.elim)).string; rw [HSB.out] at hq1; have HBB := Lib.hid hB; clear hb hB)
                  all_goals
                    go_wp2_with fail
                    go_returns
                    exact ⟨rfl, ((Below.refl _ _).drew).trans HBB.out⟩
end Go.Proofs.Ytakjiicnbocjeaa
