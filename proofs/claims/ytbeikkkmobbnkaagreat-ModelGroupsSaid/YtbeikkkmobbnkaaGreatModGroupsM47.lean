/- entrepotref25.Goods (written by wip/tools/md32.py). -/
import Derived.Test.YtbeikkkmobbnkaaGreatModGroupsM46
import Derived.Test.YtbeikkkmobbnkaaGreatModGroupsM25
import Derived.Test.YtbeikkkmobbnkaaGreatModGroupsM2
import Derived.Test.YtbeikkkmobbnkaaGreatModGroupsM24
namespace Go.Proofs.YtbeikkkmobbnkaaGreat
open Go.RowKit Go.Maps
theorem putR_len (S : List Str) (s : Str) : (putR S s).length ≤ S.length + 1 := by
  unfold putR
  split
  · omega
  · simp only [List.length_append, List.length_take, List.length_cons, List.length_drop]; omega
def putIts (l : List Str) (its : Its) : List Str := its.foldl (fun l p => putR l p.1) l
theorem putIts_take {l : List Str} {its : Its} {k : Nat} {p : Str × Int} (h : its[k]? = some p) : putIts l (its.take (k + 1)) = putR (putIts l (its.take k)) p.1 := by
  unfold putIts
  rw [List.take_add_one, h, List.foldl_append]
  rfl
theorem putIts_len : ∀ (its : Its) (l : List Str), (putIts l its).length ≤ l.length + its.length
  | [], l => by simp [putIts]
  | p :: r, l => by
    have := putIts_len r (putR l p.1)
    have := putR_len l p.1
    show (putIts (putR l p.1) r).length ≤ _
    rw [List.length_cons]; omega
def goodStep (l : List Str) (a : AV) : List Str := if a.k = 7 then putR (putIts l a.its) a.g else putIts l a.its
/-- All goods, rising. -/
def goodsR (R : List AV) : List Str := R.foldl goodStep []
theorem goodsR_take {R : List AV} {k : Nat} {p : AV} (h : R[k]? = some p) : goodsR (R.take (k + 1)) = goodStep (goodsR (R.take k)) p := by
  unfold goodsR
  rw [List.take_add_one, h, List.foldl_append]
  rfl
theorem goodsR_len (R : List AV) (hm : ∀ a ∈ R, a.its.length ≤ 16) : ∀ k, (goodsR (R.take k)).length ≤ 17 * k
  | 0 => by simp [goodsR]
  | k + 1 => by
    have ih := goodsR_len R hm k
    cases h : R[k]? with
    | none =>
      have : R.take (k + 1) = R.take k := by rw [List.take_add_one, h]; simp
      rw [this]; omega
    | some p =>
      rw [goodsR_take h]
      have h1 := putIts_len p.its (goodsR (R.take k))
      have h2 := hm p (List.mem_of_getElem? h)
      have h3 := putR_len (putIts (goodsR (R.take k)) p.its) p.g
      unfold goodStep
      split <;> omega
set_option maxRecDepth 100000 in
set_option maxHeartbeats 16000000 in
theorem r25Goods (w : World) (v : Value) (L : List AV) (h : Al w v L) (hl : L.length ≤ 1000) : Calls Tryz.prog 12 #[v] w fun e w' => ∃ v', e = .returned v' ∧ w'.ownsRow w.heap.size 9 1 v' (goodsR (rightL L)).length ((goodsR (rightL L)).map vS) ∧ Fr (fun _ => False) w w' := by
  have hRr := Lib.hid (r25Right w v L h hl)
  have hokR : Hid (∀ p ∈ rightL L, AOk w p ∧ p.its.length ≤ 16) := Lib.hid (fun p hp => ⟨h.okm (List.mem_filter.1 hp).1, (mayK_all (may_its (List.mem_filter.1 hp).2)).1⟩)
  have hle : (rightL L).length ≤ 1000 := by have := rightL_len L L.length; rw [List.take_length] at this; omega
  obtain ⟨va, vc, rfl⟩ := h.sl
  obtain ⟨N, hN⟩ : ∃ N, L.length = N := ⟨_, rfl⟩
  rw [hN] at hRr ⊢
  obtain ⟨R, hR⟩ : ∃ R, rightL L = R := ⟨_, rfl⟩
  rw [hR] at hRr hokR hle ⊢
  obtain ⟨NR, hNR⟩ : ∃ n, R.length = n := ⟨_, rfl⟩
  rw [hNR] at hRr hle
  have HNR := Lib.hid hNR
  have hNI : (NR : Int) ≤ 1000 := by omega
  have hgl : Hid (∀ k, (goodsR (R.take k)).length ≤ 17 * k) := Lib.hid (goodsR_len R (fun a ha => (hokR.out a ha).2))
  clear h hl hN hR hNR hle
  go_enter Tryz.func12, Tryz.ntmps12
  go_wp2_with (go_at_call 26; refine hRr.out.mono ?_; rintro e w1 ⟨v1, rfl, ho1, hf1⟩; obtain ⟨ra, rc, rfl⟩ := row_sl ho1; have HO1 := Lib.hid ho1; have HF1 := Lib.hid hf1; clear ho1 hf1)
  have hA1 : Hid (Al w1 (.slice ra NR rc) R) := Lib.hid (by have := Al.own (L := R) (by rw [HNR.out]; exact HO1.out) (fun p hp => aokKeeps (hokR.out p hp).1 HF1.out (fun _ h => h.elim)); exact this)
  go_loopw [3, 5] (fun v i wr => ∃ k : Nat, k ≤ NR ∧ i = .int .i64 k ∧ wr.ownsRow w.heap.size 9 1 v (goodsR (R.take k)).length ((goodsR (R.take k)).map vS) ∧ Fr (fun _ => False) w1 wr) (fun _ i _ => NR - (intOf i).toNat)
  case atStart => exact ⟨0, Nat.zero_le _, rfl, World.ownsRow_nil _ _ _ _, Fr.refl _ _⟩
  case round =>
    obtain ⟨k, hk, rfl, hown, hfr⟩ := hrel
    have HFR := Lib.hid hfr; have HOW := Lib.hid hown
    obtain ⟨wo, hwo⟩ : ∃ wo : World, wo = wr := ⟨_, rfl⟩
    rw [← hwo] at HFR HOW hfr ⊢
    obtain ⟨v3, hv3⟩ := row_sl hown
    obtain ⟨c3, rfl⟩ := hv3
    clear hwo hown
    obtain ⟨q3, hq3⟩ : ∃ q, (goodsR (R.take k)).length = q := ⟨_, rfl⟩
    by_cases hlt : k < NR
    · obtain ⟨pe, hp⟩ : ∃ p, R[k]? = some p := ⟨R[k]'(by rw [HNR.out]; exact hlt), List.getElem?_eq_getElem _⟩
      have hlI : (k : Int) < NR := by omega
      have HT := Lib.hid (goodsR_take hp)
      have h16 : Hid (pe.its.length ≤ 16) := Lib.hid (hokR.out pe (List.mem_of_getElem? hp)).2
      obtain ⟨ade, rfl, hoke, z0, zs⟩ := (hA1.out.fr0 aokKeeps hfr).at_ hp
      have HOKe := Lib.hid hoke
      have honee := avOne hoke
      obtain ⟨lae, lce, hle⟩ := hoke.l.sl
      obtain ⟨Pe, hPe⟩ : ∃ P : AV, P = pe := ⟨_, rfl⟩
      rw [← hPe] at hp HOKe honee HT h16
      obtain ⟨ce, ne, kde, oe, re, te, me, ge, le, itse⟩ := pe
      dsimp only at hle
      subst hle
      have x0e := z0 (.int .i64 ce) rfl
      have x1e := zs 0 (.int .i64 ne) rfl
      have x2e := zs 1 (.int .i64 kde) rfl
      have x3e := zs 2 (.int .i64 oe) rfl
      have x4e := zs 3 (.int .i64 re) rfl
      have x5e := zs 4 (.int .i64 te) rfl
      have x6e := zs 5 (.int .i64 me) rfl
      have x7e := zs 6 (vS ge) rfl
      have x8e := zs 7 (.slice lae itse.length lce) rfl
      dsimp only [Nat.zero_add, Nat.reduceAdd] at x0e x1e x2e x3e x4e x5e x6e x7e x8e
      have hcse : Pe.cs = #[.int .i64 ce, .int .i64 ne, .int .i64 kde, .int .i64 oe, .int .i64 re, .int .i64 te, .int .i64 me, vS ge, .slice lae itse.length lce] := by rw [hPe]; rfl
      have hPce : Pe.c = ce := by rw [hPe]
      have hPne : Pe.n = ne := by rw [hPe]
      have hPke : Pe.k = kde := by rw [hPe]
      have hPoe : Pe.o = oe := by rw [hPe]
      have hPie : Pe.its = itse := by rw [hPe]
      have hPge : Pe.g = ge := by rw [hPe]
      have hPle : Pe.l = .slice lae itse.length lce := by rw [hPe]
      obtain ⟨Me, hMe⟩ : ∃ M, itse.length = M := ⟨_, rfl⟩
      rw [hMe] at x8e hcse hPle
      rw [hcse] at honee
      have HPe := Lib.hid hp
      have HCSe := Lib.hid hcse
      have HONEe := Lib.hid honee
      have HPCe := Lib.hid hPce
      have HPNe := Lib.hid hPne
      have HPKe := Lib.hid hPke
      have HPOe := Lib.hid hPoe
      have HPIe := Lib.hid hPie
      have HPGe := Lib.hid hPge
      have HPLe := Lib.hid hPle
      have HMe := Lib.hid hMe
      clear hp hoke honee z0 zs hPe hcse hPce hPne hPke hPoe hPie hPge hPle hMe
      obtain ⟨S, hS⟩ : ∃ S, goodsR (R.take k) = S := ⟨_, rfl⟩
      have hSl : Hid (S.length ≤ 17 * k) := Lib.hid (by rw [← hS]; exact hgl.out k)
      rw [hS] at HT HOW hq3 ⊢
      have hstep : Hid (goodsR (R.take (k + 1)) = if kde = 7 then putR (putIts S itse) ge else putIts S itse) := Lib.hid (by rw [HT.out]; unfold goodStep; rw [HPKe.out, HPIe.out, HPGe.out])
      have hm16 : Me ≤ 16 := by have := h16.out; rw [HPIe.out, HMe.out] at this; exact this
      have hMI : (Me : Int) ≤ 16 := by omega
      have hcE : Hid (∀ W, Fr (fun _ => False) wo W → W.cell? ⟨(ade.add (k * 9)).block, (ade.add (k * 9)).off + 8, none⟩ = some (.slice lae Me lce) ∧ W.cell? ⟨(ade.add (k * 9)).block, (ade.add (k * 9)).off + 2, none⟩ = some (.int .i64 kde) ∧ W.cell? ⟨(ade.add (k * 9)).block, (ade.add (k * 9)).off + 7, none⟩ = some (vS ge)) := Lib.hid (fun W hf => ⟨hf.cell x8e (fun h => h), hf.cell x2e (fun h => h), hf.cell x7e (fun h => h)⟩)
      have hIl : Hid (Il wo (.slice lae Me lce) itse) := Lib.hid (by have := HOKe.out.l; rw [HPLe.out, HPIe.out] at this; exact this)
      clear hfr hS x0e x1e x2e x3e x4e x5e x6e x7e x8e
      go_wp2_with fail
      go_loopw [3, 6] (fun v i wr => ∃ j : Nat, j ≤ Me ∧ i = .int .i64 j ∧ wr.ownsRow w.heap.size 9 1 v (putIts S (itse.take j)).length ((putIts S (itse.take j)).map vS) ∧ Fr (fun _ => False) wo wr) (fun _ i _ => Me - (intOf i).toNat)
      case atStart => exact ⟨0, Nat.zero_le _, rfl, HOW.out, Fr.refl _ _⟩
      case round =>
        obtain ⟨j, hj, rfl, hown, hfr⟩ := hrel
        have HFJ := Lib.hid hfr; have HOJ := Lib.hid hown
        obtain ⟨e8, e2, e7⟩ := hcE.out wr hfr
        have hbase : Hid (w.heap.size ≤ wr.heap.size) := Lib.hid (HF1.out.trans (HFR.out.trans hfr)).size
        by_cases hjl : j < Me
        · obtain ⟨p, hpj⟩ : ∃ p, itse[j]? = some p := ⟨itse[j]'(by rw [HMe.out]; exact hjl), List.getElem?_eq_getElem _⟩
          have hjI : (j : Int) < Me := by omega
          have HTJ := Lib.hid (putIts_take (l := S) hpj)
          obtain ⟨adi, rfl, -, -, y0, y1⟩ := (hIl.out.fr hfr (fun _ h => h.elim)).at_ hpj
          have hPt := Lib.hid (r25put wr w.heap.size _ _ p.1 HOJ.out hbase.out (by have h1 := putIts_len (itse.take j) S; have h2 := hSl.out; have h3 : (itse.take j).length ≤ j := List.length_take_le _ _; omega))
          obtain ⟨gx, nx⟩ := p
          dsimp only at y0 y1 HTJ hPt
          obtain ⟨av, cv, rfl⟩ := row_sl hown
          clear hfr hown hpj
          go_wp2_with (go_at_call 29; refine hPt.out.mono ?_; rintro e w5 ⟨v5, rfl, ho5, hf5⟩; have HO5 := Lib.hid ho5; have HF5 := Lib.hid hf5; clear ho5 hf5)
          go_roundw
          case rel => exact ⟨j + 1, by omega, by go_num, by rw [HTJ.out]; exact HO5.out, HFJ.out.trans HF5.out⟩
          case measure => simp [intOf]; omega
        · obtain rfl : j = Me := by omega
          have hall : itse.take j = itse := List.take_of_length_le (by rw [HMe.out]; exact Nat.le_refl _)
          rw [hall] at HOJ hown
          have hjI : ¬ (j : Int) < j := by omega
          obtain ⟨av, cv, rfl⟩ := row_sl hown
          have hPt := Lib.hid (r25put wr w.heap.size _ _ ge HOJ.out hbase.out (by have h1 := putIts_len itse S; have h2 := hSl.out; have h3 := HMe.out; omega))
          clear hfr hown hall
          by_cases h7 : kde = 7
          · have b1 : (kde == 7) = true := by simpa using h7
            have hnx : Hid (goodsR (R.take (k + 1)) = putR (putIts S itse) ge) := Lib.hid (by rw [hstep.out, if_pos h7])
            clear h7
            go_wp2_with (go_at_call 29; refine hPt.out.mono ?_; rintro e w5 ⟨v5, rfl, ho5, hf5⟩; have HO5 := Lib.hid ho5; have HF5 := Lib.hid hf5; clear ho5 hf5)
            go_roundw
            case rel => exact ⟨k + 1, by omega, by go_num, by rw [hnx.out]; exact HO5.out, HFR.out.trans (HFJ.out.trans HF5.out)⟩
            case measure => simp [intOf]; omega
          · have b1 : (kde == 7) = false := by simpa using h7
            have hnx : Hid (goodsR (R.take (k + 1)) = putIts S itse) := Lib.hid (by rw [hstep.out, if_neg h7])
            clear h7
            go_wp2_with fail
            go_roundw
            case rel => exact ⟨k + 1, by omega, by go_num, by rw [hnx.out]; exact HOJ.out, HFR.out.trans HFJ.out⟩
            case measure => simp [intOf]; omega
    · obtain rfl : k = NR := by omega
      have hall : R.take k = R := List.take_of_length_le (by rw [HNR.out]; exact Nat.le_refl _)
      rw [hall] at HOW
      have HALL := Lib.hid hall
      clear hq3
      have hlI : ¬ (k : Int) < k := by omega
      clear hall hfr
      go_wp2_with fail
      go_ret
      exact ⟨_, rfl, by rw [HALL.out]; exact HOW.out, HF1.out.trans HFR.out⟩
end Go.Proofs.YtbeikkkmobbnkaaGreat
