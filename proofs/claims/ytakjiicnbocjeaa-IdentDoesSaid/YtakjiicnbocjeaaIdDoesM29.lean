/- The document's cells (entrepotref01): First: the walk. -/
import Derived.Test.YtakjiicnbocjeaaIdDoesM28
import Derived.BigQuiet
namespace Go.Proofs.Ytakjiicnbocjeaa
open Go.RowKit Go.Maps
def firstW (p : Int × Nat) : Value := .tuple #[.int .i64 p.1, .int .i64 p.2]
set_option maxRecDepth 100000 in
set_option maxHeartbeats 4000000 in
theorem rFirst (w : World) (v : Value) (bs : List Int) (h : Bs w v bs) (hcap : ∀ a n c, v = .slice a n c → n ≤ c) : Calls Try.prog 66 #[v] w fun e w' => e = .returned (firstW (firstR bs)) ∧ Below w.heap.size w w' := by
  obtain ⟨hlen, a, c, rfl, hx⟩ := id h
  cases bs with
  | nil =>
    clear h hx
    rw [firstR_none rfl]
    unfold firstW
    dsimp only
    go_enter Try.func66, Try.ntmps66
    go_wp2
    go_ret2
    exact ⟨rfl, Below.refl _ _⟩
  | cons hd r =>
    obtain ⟨h0, h1, ad, rfl, hc⟩ := hx 0 hd rfl
    have hc0 : w.cell? ad = some (.int .u8 hd) := by have := hc; unfold Addr.add at this; simpa using this
    obtain ⟨n, hn⟩ : ∃ n, r.length = n := ⟨_, rfl⟩
    have HN := Lib.hid hn
    have hl : (hd :: r).length = n + 1 := by rw [List.length_cons, hn]
    have hcn : n + 1 ≤ c := by rw [← hl]; exact hcap _ _ _ (by rw [hl])
    have hbyte : ∀ x ∈ r, 0 ≤ x ∧ x < 256 := fun x hxr => by
      obtain ⟨i, hi, rfl⟩ := List.getElem_of_mem hxr
      obtain ⟨z0, z1, _⟩ := hx (i + 1) r[i] (by simp)
      exact ⟨z0, z1⟩
    have hcell : ∀ (i : Nat) (x : Int), r[i]? = some x → w.cell? (ad.add (1 + i)) = some (.int .u8 x) := fun i x hi => by
      obtain ⟨_, _, ad', e, hc⟩ := hx (i + 1) x (by simpa using hi)
      cases e
      rw [Nat.add_comm]; exact hc
    have HB := Lib.hid hbyte; have HC := Lib.hid hcell; have HH := Lib.hid h
    rw [hl] at hlen ⊢
    have HL := Lib.hid hl
    clear hx h hl hcell hbyte hn hcap hc
    by_cases hs : hd < 128
    · have e : firstR (hd :: r) = (hd, 1) := firstR_some (by simp [firstB, hs])
      rw [e]
      unfold firstW
      dsimp only
      clear e
      go_enter Try.func66, Try.ntmps66
      go_wp2
      go_ret2
      exact ⟨rfl, Below.refl _ _⟩
    · by_cases ho : ¬ (129 ≤ hd ∧ hd ≤ 136) ∧ ¬ (144 ≤ hd ∧ hd ≤ 152)
      · rw [firstR_none (firstB_out (r := r) (by omega) ho.1 ho.2)]
        unfold firstW
        dsimp only
        have ho2 : hd = 128 ∨ (136 < hd ∧ hd < 144) ∨ 152 < hd := by omega
        clear ho
        rcases ho2 with rfl | ⟨h3, h4⟩ | h3
        all_goals
          go_enter Try.func66, Try.ntmps66
          go_wp2
          go_ret2
          exact ⟨rfl, Below.refl _ _⟩
      · have ho2 : (129 ≤ hd ∧ hd ≤ 136) ∨ (144 ≤ hd ∧ hd ≤ 152) := by omega
        clear ho
        obtain ⟨S, hS⟩ : ∃ S : Nat, dSize hd = S := ⟨(dSize hd).toNat, by unfold dSize; split <;> omega⟩
        by_cases hsh : n < S
        · rw [firstR_none (firstB_short (r := r) (by omega) hS (by rw [HN.out]; exact hsh))]
          unfold firstW
          dsimp only
          rcases ho2 with ⟨h3, h4⟩ | ⟨h3, h4⟩
          · have hd1 : (n : Int) + 1 < 1 + (hd - 128) := by unfold dSize at hS; split at hS <;> omega
            clear hS hsh
            go_enter Try.func66, Try.ntmps66
            go_wp2
            go_ret2
            exact ⟨rfl, Below.refl _ _⟩
          · have hd1 : (n : Int) + 1 < 1 + (hd - 144) := by unfold dSize at hS; split at hS <;> omega
            clear hS hsh
            go_enter Try.func66, Try.ntmps66
            go_wp2
            go_ret2
            exact ⟨rfl, Below.refl _ _⟩
        · rcases ho2 with ⟨h3, h4⟩ | ⟨h3, h4⟩
          · have hS1 : hd - 128 = (S : Int) := by unfold dSize at hS; split at hS <;> omega
            have hS8 : S ≤ 8 := by omega
            have hfb := firstB_in (r := r) (.inl ⟨h3, h4⟩) hS HB.out (by rw [HN.out]; omega)
            obtain ⟨U, hU⟩ : ∃ U, nU (r.take S) = U := ⟨_, rfl⟩
            rw [hU] at hfb
            have hcc : ¬ 144 ≤ hd := by omega
            simp only [if_neg hcc] at hfb
            obtain ⟨hU0, hU1⟩ := nU_lt HB.out S (by rw [HN.out]; omega)
            have hp : 256 ^ S ≤ 256 ^ 8 := Nat.pow_le_pow_right (by omega) hS8
            rw [hU] at hU0 hU1
            have hU2 : U < 18446744073709551616 := by omega
            obtain ⟨p, hp2⟩ : ∃ p, firstR (hd :: r) = p := ⟨_, rfl⟩
            rw [hp2]
            have HP := Lib.hid hp2
            have HU := Lib.hid hU; have HFB := Lib.hid hfb
            have hS2 : 1 + (hd - 128) ≤ (n : Int) + 1 := by omega
            have HS1 := Lib.hid hS1
            have hS3 : (hd - 128) ≤ 8 := by omega
            clear hp hU1 hU hfb hS hS1 hp2 hcc
            go_enter Try.func66, Try.ntmps66
            go_wp2_with fail
            go_loopw [6, 7] (fun u i wr => ∃ k : Nat, k ≤ S ∧ u = .int .u64 (nU (r.take k)) ∧ i = .int .i64 k ∧ wr = w) (fun _ i _ => S - (intOf i).toNat)
            case atStart => exact ⟨0, by omega, rfl, rfl, rfl⟩
            case round =>
              obtain ⟨k, hk, rfl, rfl, rfl⟩ := hrel
              by_cases hkm : k < S
              · obtain ⟨x, hx⟩ : ∃ x, r[k]? = some x := ⟨r[k]'(by have := HN.out; omega), List.getElem?_eq_getElem _⟩
                have hcx := HC.out k x hx
                have hcx : wr.cell? ⟨ad.block, ad.off + 1 + k, none⟩ = some (.int .u8 x) := by
                  rw [← hcx]
                  unfold Addr.add
                  rw [if_neg (by omega)]
                  congr 2; omega
                obtain ⟨x0, x1⟩ := HB.out x (List.mem_of_getElem? hx)
                have hkm2 : (k : Int) < hd - 128 := by rw [HS1.out]; omega
                obtain ⟨hu0, hu1⟩ := nU_lt HB.out k (by rw [HN.out]; omega)
                have hp : 256 ^ k ≤ 256 ^ 7 := Nat.pow_le_pow_right (by omega) (by omega)
                have hu2 : nU (r.take k) < 72057594037927936 := by omega
                have HU2 := Lib.hid (nU_succ hx)
                generalize nU (r.take k) = u at *
                clear hx hp hu1
                go_wp2
                go_roundw
                case rel => exact ⟨k + 1, by omega, by rw [HU2.out], by go_num, by trivial⟩
                case measure => simp [intOf]; omega
              · have hke : k = S := by omega
                subst hke
                have hkm2 : ¬ (k : Int) < hd - 128 := by rw [HS1.out]; omega
                rw [HU.out]
                by_cases hbig : 9223372036854775808 ≤ U
                · have hp0 : p = (0, 0) := by rw [← HP.out]; exact firstR_none (by rw [HFB.out, if_pos hbig])
                  go_wp2_with fail
                  go_ret2
                  exact ⟨rfl, Below.refl _ _⟩
                · have hbig2 : U < 9223372036854775808 := by omega
                  have hNK : okI U := by unfold okI; omega
                  have HNK := Lib.hid hNK
                  have hfb := HFB.out
                  rw [if_neg hbig] at hfb
                  have hTK := HH.out.take (k := 1 + k) (by rw [HL.out]; omega)
                  rw [show (hd :: r).take (1 + k) = hd :: r.take k by rw [Nat.add_comm]; rfl] at hTK
                  have HTK := Lib.hid hTK
                  obtain ⟨sa, hsa⟩ : ∃ sa, strOfNums (numB U) = sa := ⟨_, rfl⟩
                  obtain ⟨sb, hsb⟩ : ∃ sb, strOfNums (hd :: r.take k) = sb := ⟨_, rfl⟩
                  have hiff : sa = sb ↔ numB U = hd :: r.take k := by
                    rw [← hsa, ← hsb]
                    exact ⟨strOf_inj (fun b hb => numB_mem HNK.out hb) (fun b hb => by rcases List.mem_cons.1 hb with rfl | hb; exact ⟨h0, h1⟩; exact HB.out b (List.mem_of_mem_take hb)), fun e => by rw [e]⟩
                  have HSA := Lib.hid hsa; have HSB := Lib.hid hsb; have HIFF := Lib.hid hiff; have HFR := Lib.hid hfb
                  clear hNK hfb hTK hsa hsb hiff hbig hkm
                  go_wp2_with fail
                  refine (rNum _ _ HNK.out).mono ?_
                  rintro e w1 ⟨vc, rfl, hvc, hb⟩
                  have hq1 : ∀ q, _ := fun q => (hvc.1.fr ((Fr.refl (fun _ => False) w1).drewN q) (fun _ h => h.elim)).string
                  rw [HSA.out] at hq1
                  have hq2 : ∀ q, _ := fun q => ((HTK.out.fr (Fr.below (S := fun _ => False) hb) (fun _ h => h.elim)).fr ((Fr.refl (fun _ => False) w1).drewN q) (fun _ h => h.elim)).string
                  rw [HSB.out] at hq2
                  have HBB := Lib.hid hb
                  have hvb := hvc.1
                  obtain ⟨_, av, cv, rfl, -⟩ := hvb
                  clear hvc hb
                  have hb1 : 1 + (hd - 128) ≤ (c : Int) := by omega
                  have hb0 : (0 : Int) ≤ 1 + (hd - 128) := by omega
                  have htn : (1 + (hd - 128)).toNat = 1 + k := by have := HS1.out; omega
                  go_wp2_with fail
                  rcases Decidable.em (sa = sb) with heq | hne
                  · subst heq
                    have hp0 : p = (U, 1 + k) := by rw [← HP.out]; exact firstR_some (by rw [HFR.out, if_pos (HIFF.out.1 rfl)])
                    have hval : (1 : Int) + (hd - 128) = ((1 + k : Nat) : Int) := by have := HS1.out; omega
                    have HV := Lib.hid hval
                    have HP0 := Lib.hid hp0
                    clear hval hp0
                    go_quiet (fail)
                    go_wp2
                    go_ret2
                    refine ⟨?_, ⟨HBB.out.os, HBB.out.tape, HBB.out.output, HBB.out.size, HBB.out.block⟩⟩
                    rw [HP0.out]
                    unfold firstW
                    dsimp only
                    rw [← HV.out]
                    rfl
                  · have hbne : (sa.toList == sb.toList) = false := strNe hne
                    have hp0 : p = (0, 0) := by rw [← HP.out]; exact firstR_none (by rw [HFR.out, if_neg (fun e => hne (HIFF.out.2 e))])
                    have HP0 := Lib.hid hp0
                    clear hp0
                    go_quiet (fail)
                    go_wp2
                    go_ret2
                    rw [HP0.out]
                    exact ⟨rfl, ⟨HBB.out.os, HBB.out.tape, HBB.out.output, HBB.out.size, HBB.out.block⟩⟩
          · have hS1 : hd - 144 = (S : Int) := by unfold dSize at hS; split at hS <;> omega
            have hS8 : S ≤ 8 := by omega
            have hfb := firstB_in (r := r) (.inr ⟨h3, h4⟩) hS HB.out (by rw [HN.out]; omega)
            obtain ⟨U, hU⟩ : ∃ U, nU (r.take S) = U := ⟨_, rfl⟩
            rw [hU] at hfb
            have hcc : 144 ≤ hd := h3
            simp only [if_pos hcc] at hfb
            obtain ⟨hU0, hU1⟩ := nU_lt HB.out S (by rw [HN.out]; omega)
            have hp : 256 ^ S ≤ 256 ^ 8 := Nat.pow_le_pow_right (by omega) hS8
            rw [hU] at hU0 hU1
            have hU2 : U < 18446744073709551616 := by omega
            obtain ⟨p, hp2⟩ : ∃ p, firstR (hd :: r) = p := ⟨_, rfl⟩
            rw [hp2]
            have HP := Lib.hid hp2
            have HU := Lib.hid hU; have HFB := Lib.hid hfb
            have hS2 : 1 + (hd - 144) ≤ (n : Int) + 1 := by omega
            have HS1 := Lib.hid hS1
            have hS3 : (hd - 144) ≤ 8 := by omega
            clear hp hU1 hU hfb hS hS1 hp2 hcc
            go_enter Try.func66, Try.ntmps66
            go_wp2_with fail
            go_loopw [6, 7] (fun u i wr => ∃ k : Nat, k ≤ S ∧ u = .int .u64 (nU (r.take k)) ∧ i = .int .i64 k ∧ wr = w) (fun _ i _ => S - (intOf i).toNat)
            case atStart => exact ⟨0, by omega, rfl, rfl, rfl⟩
            case round =>
              obtain ⟨k, hk, rfl, rfl, rfl⟩ := hrel
              by_cases hkm : k < S
              · obtain ⟨x, hx⟩ : ∃ x, r[k]? = some x := ⟨r[k]'(by have := HN.out; omega), List.getElem?_eq_getElem _⟩
                have hcx := HC.out k x hx
                have hcx : wr.cell? ⟨ad.block, ad.off + 1 + k, none⟩ = some (.int .u8 x) := by
                  rw [← hcx]
                  unfold Addr.add
                  rw [if_neg (by omega)]
                  congr 2; omega
                obtain ⟨x0, x1⟩ := HB.out x (List.mem_of_getElem? hx)
                have hkm2 : (k : Int) < hd - 144 := by rw [HS1.out]; omega
                obtain ⟨hu0, hu1⟩ := nU_lt HB.out k (by rw [HN.out]; omega)
                have hp : 256 ^ k ≤ 256 ^ 7 := Nat.pow_le_pow_right (by omega) (by omega)
                have hu2 : nU (r.take k) < 72057594037927936 := by omega
                have HU2 := Lib.hid (nU_succ hx)
                generalize nU (r.take k) = u at *
                clear hx hp hu1
                go_wp2
                go_roundw
                case rel => exact ⟨k + 1, by omega, by rw [HU2.out], by go_num, by trivial⟩
                case measure => simp [intOf]; omega
              · have hke : k = S := by omega
                subst hke
                have hkm2 : ¬ (k : Int) < hd - 144 := by rw [HS1.out]; omega
                rw [HU.out]
                by_cases hbig : 9223372036854775808 ≤ U
                · have hp0 : p = (0, 0) := by rw [← HP.out]; exact firstR_none (by rw [HFB.out, if_pos hbig])
                  go_wp2_with fail
                  go_ret2
                  exact ⟨rfl, Below.refl _ _⟩
                · have hbig2 : U < 9223372036854775808 := by omega
                  have hNK : okI (-1 - U) := by unfold okI; omega
                  have HNK := Lib.hid hNK
                  have hfb := HFB.out
                  rw [if_neg hbig] at hfb
                  have hTK := HH.out.take (k := 1 + k) (by rw [HL.out]; omega)
                  rw [show (hd :: r).take (1 + k) = hd :: r.take k by rw [Nat.add_comm]; rfl] at hTK
                  have HTK := Lib.hid hTK
                  obtain ⟨sa, hsa⟩ : ∃ sa, strOfNums (numB (-1 - U)) = sa := ⟨_, rfl⟩
                  obtain ⟨sb, hsb⟩ : ∃ sb, strOfNums (hd :: r.take k) = sb := ⟨_, rfl⟩
                  have hiff : sa = sb ↔ numB (-1 - U) = hd :: r.take k := by
                    rw [← hsa, ← hsb]
                    exact ⟨strOf_inj (fun b hb => numB_mem HNK.out hb) (fun b hb => by rcases List.mem_cons.1 hb with rfl | hb; exact ⟨h0, h1⟩; exact HB.out b (List.mem_of_mem_take hb)), fun e => by rw [e]⟩
                  have HSA := Lib.hid hsa; have HSB := Lib.hid hsb; have HIFF := Lib.hid hiff; have HFR := Lib.hid hfb
                  clear hNK hfb hTK hsa hsb hiff hbig hkm
                  go_wp2_with fail
                  refine (rNum _ _ HNK.out).mono ?_
                  rintro e w1 ⟨vc, rfl, hvc, hb⟩
                  have hq1 : ∀ q, _ := fun q => (hvc.1.fr ((Fr.refl (fun _ => False) w1).drewN q) (fun _ h => h.elim)).string
                  rw [HSA.out] at hq1
                  have hq2 : ∀ q, _ := fun q => ((HTK.out.fr (Fr.below (S := fun _ => False) hb) (fun _ h => h.elim)).fr ((Fr.refl (fun _ => False) w1).drewN q) (fun _ h => h.elim)).string
                  rw [HSB.out] at hq2
                  have HBB := Lib.hid hb
                  have hvb := hvc.1
                  obtain ⟨_, av, cv, rfl, -⟩ := hvb
                  clear hvc hb
                  have hb1 : 1 + (hd - 144) ≤ (c : Int) := by omega
                  have hb0 : (0 : Int) ≤ 1 + (hd - 144) := by omega
                  have htn : (1 + (hd - 144)).toNat = 1 + k := by have := HS1.out; omega
                  go_wp2_with fail
                  rcases Decidable.em (sa = sb) with heq | hne
                  · subst heq
                    have hp0 : p = ((-1 - U), 1 + k) := by rw [← HP.out]; exact firstR_some (by rw [HFR.out, if_pos (HIFF.out.1 rfl)])
                    have hval : (1 : Int) + (hd - 144) = ((1 + k : Nat) : Int) := by have := HS1.out; omega
                    have HV := Lib.hid hval
                    have HP0 := Lib.hid hp0
                    clear hval hp0
                    go_quiet (fail)
                    go_wp2
                    go_ret2
                    refine ⟨?_, ⟨HBB.out.os, HBB.out.tape, HBB.out.output, HBB.out.size, HBB.out.block⟩⟩
                    rw [HP0.out]
                    unfold firstW
                    dsimp only
                    rw [← HV.out]
                    rfl
                  · have hbne : (sa.toList == sb.toList) = false := strNe hne
                    have hp0 : p = (0, 0) := by rw [← HP.out]; exact firstR_none (by rw [HFR.out, if_neg (fun e => hne (HIFF.out.2 e))])
                    have HP0 := Lib.hid hp0
                    clear hp0
                    go_quiet (fail)
                    go_wp2
                    go_ret2
                    rw [HP0.out]
                    exact ⟨rfl, ⟨HBB.out.os, HBB.out.tape, HBB.out.output, HBB.out.size, HBB.out.block⟩⟩
end Go.Proofs.Ytakjiicnbocjeaa
