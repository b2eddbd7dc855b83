/- bins: for every input BinsDoes returns true and leaves its input as it was. -/
import Derived.Test.YtlniekobijcanaaGreatRows
import Derived.Test.YtlniekobijcanaaGreatBinsDoesM16
import Derived.Test.YtlniekobijcanaaGreatBinsDoesM13
import Derived.Test.YtlniekobijcanaaGreatBinsDoesM1
import Derived.Test.YtlniekobijcanaaGreatBinsDoesM4
import Derived.Deep.RegionWith
import Derived.Deep.QuietTactic
import Derived.BigQuiet
namespace Go.Proofs.YtlniekobijcanaaGreat.binsDoes
open Go.ChangeShapes Go.WideShapes Go.ChangeAt Go.RowKit Go.Maps
set_option maxRecDepth 100000 in
set_option maxHeartbeats 16000000 in
theorem walk (v0 v1 : Value) (B : List BI) (ops : List BOp) (w : World) (hB : Sbi w v0 B) (hp : Sq 5 bopC okBop w v1 ops) : Calls Tryz.prog 8 #[v0, v1] w fun e w' => e = .returned (.bool true) ∧ Below w.heap.size w w' := by
  have hlen := hp.len
  obtain ⟨va, vl, vc, rfl⟩ : ∃ a n c, v1 = .slice a n c := by obtain ⟨a, c, e⟩ := hp.sl; exact ⟨a, _, c, e⟩
  have hvl : vl = ops.length := by obtain ⟨a, c, e⟩ := hp.sl; injection e
  obtain ⟨N, hN⟩ : ∃ N, ops.length = N := ⟨_, rfl⟩
  rw [hN] at hvl hlen
  subst hvl
  have HN := Lib.hid hN; have HP := Lib.hid hp; have HB := Lib.hid hB
  clear hp hB hN
  have hfin : ∀ w', Fr (fun _ => False) w w' → Below w.heap.size w w' := fun w' h => h.toBelow (fun b e => e.elim) (Nat.le_refl _)
  have HFIN := Lib.hid hfin
  clear hfin
  go_enter Tryz.func8, Tryz.ntmps8
  go_wp2_with fail
  refine (lFloor w v0 B HB.out).mono ?_
  rintro e w1 (⟨hm, rfl, hf1⟩ | ⟨hm, g, gr, vr, wa, rfl, hFS, hgr, hf1, hobj, hrow⟩)
  · have hM := Lib.hid (fun W (hf : Fr (fun _ => False) w W) => rMay W v0 B (HB.out.fr0 okBiKeeps hf))
    have hW := Lib.hid (fun W (hf : Fr (fun _ => False) w W) => bNew W v0 B (HB.out.fr0 okBiKeeps hf))
    have HMF := Lib.hid hm
    rw [hm] at hM
    have HF := Lib.hid hf1
    clear hm hf1
    go_wp2_with (first
      | (go_at_call 10; refine (lLives _).mono ?_; rintro e w2 ⟨rfl, hf2⟩; have HF := Lib.hid (HF.out.trans hf2); clear hf2)
      | (go_at_call 27; refine (hW.out _ HF.out).mono ?_; rintro e w4 ⟨hf4, hc4⟩; have HF := Lib.hid (HF.out.trans hf4); obtain rfl : e = .returned (.tuple #[.pointer none, .int .i64 1]) := hc4.elim (fun h => h.2) (fun h => by rw [HMF.out] at h; exact absurd h.1 (by decide)); clear hf4 hc4)
      | (go_at_call 12; refine (hM.out _ HF.out).mono ?_; rintro e w3 ⟨rfl, hf3⟩; have HF := Lib.hid (HF.out.trans hf3); clear hf3))
    go_ret
    exact ⟨rfl, HFIN.out _ HF.out⟩
  have hQ : PQ w w1 g gr (B.map BI.e) (B.map BI.e) KN KN := PQ.start (fun b hb => HB.out.okm hb) hm hFS hgr hf1 hobj hrow
  have hmb : mayBs ((B.map BI.e).map binI) = true := by rw [binI_e]; exact hm
  obtain ⟨M, hM⟩ : ∃ M, B.map BI.e = M := ⟨_, rfl⟩
  rw [hM] at hQ hmb
  have HQ := Lib.hid hQ; have HMB := Lib.hid hmb
  clear hm hFS hgr hf1 hobj hrow hM hQ hmb
  go_wp2_with (go_at_call 10; refine (lLives _).mono ?_; rintro e w2 ⟨rfl, hf2⟩; have HQ := Lib.hid (HQ.out.keep hf2); clear hf2)
  go_loopw [5, 10] (fun vf vi wr => ∃ (k g : Nat) (M : List BE), k ≤ vl ∧ k ≤ 100 ∧ vf = .pointer (some ⟨g, 0, none⟩) ∧ vi = .int .i64 k ∧ mayBs (M.map binI) = true ∧ PQ w wr g gr M M KN KN) (fun _ vi _ => vl - (intOf vi).toNat)
  case atStart => exact ⟨0, g, M, Nat.zero_le _, Nat.zero_le _, rfl, rfl, HMB.out, HQ.out⟩
  case round =>
    obtain ⟨k, g, M, hk, hk2, rfl, rfl, hmb, hQ⟩ := hrel
    have HQ := Lib.hid hQ; have HMB := Lib.hid hmb
    clear hQ hmb
    by_cases hlt : k < vl
    · have hkI : (k : Int) < vl := by omega
      by_cases h100 : k < 100
      · have hkJ : (k : Int) < 100 := by omega
        obtain ⟨o, hob⟩ : ∃ o, ops[k]? = some o := ⟨ops[k]'(by rw [HN.out]; exact hlt), List.getElem?_eq_getElem _⟩
        obtain ⟨ad, rfl, hok, z0, zs⟩ := (HP.out.fr0 okBopKeeps HQ.out.fr).at_ hob
        obtain ⟨K, s, n, bb, t⟩ := o
        have x0 := z0 (.int .i64 K) rfl
        have x1 := zs 0 (vS s) rfl
        have x2 := zs 1 (.int .i64 n) rfl
        have x3 := zs 2 (.int .i64 bb) rfl
        have x4 := zs 3 (.int .i64 t) rfl
        dsimp only [Nat.zero_add, Nat.reduceAdd] at x1 x2 x3 x4
        obtain ⟨n1, hn1⟩ : ∃ n1, wr.heap.size = n1 := ⟨_, rfl⟩
        obtain ⟨W1, hW1⟩ : ∃ W1, wr.alloc (.cells #[.int .i64 K, vS s, .int .i64 n, .int .i64 bb, .int .i64 t] 53) = W1 := ⟨_, rfl⟩
        have hfa : Fr (fun _ => False) wr W1 := by rw [← hW1]; exact (Fr.refl _ wr).alloc _
        have hz1 : W1.heap.size = n1 + 1 := by rw [← hW1, ← hn1]; simp
        have hQ1 : PQ w W1 g gr M M (fun c => c = n1) (fun c => c = n1) := HQ.out.more hfa (fun c e => .inr (by omega)) (fun c e => .inr (by omega))
        have HQ1 := Lib.hid hQ1; have HOK := Lib.hid hok
        have HZ : Hid (∀ W', Fr (fun c => ¬ (c = n1 ∧ c = n1)) W1 W' → W'.cell? ⟨n1, 0, none⟩ = some (.int .i64 K) ∧ W'.cell? ⟨n1, 1, none⟩ = some (vS s)) := Lib.hid (fun W' hf => by
          have h0 : W1.heap[n1]? = some (.cells #[.int .i64 K, vS s, .int .i64 n, .int .i64 bb, .int .i64 t] 53) := by rw [← hW1]; exact heap_at hn1.symm _
          have h2 := hf.at_ h0 (fun e => e ⟨rfl, rfl⟩)
          exact ⟨cell_obj h2 0 _ rfl, cell_obj h2 1 _ rfl⟩)
        clear hob hok z0 zs hfa hz1 hQ1
        subst hn1
        subst hW1
        by_cases h5 : K = 5
        · subst h5
          go_wp2_with (first
            | (go_at_call 25; refine HQ1.out.fpack.mono ?_; rintro e w2 ⟨v2, rfl, hb2, hv2, hf2⟩; have HU := Lib.hid (HQ1.out.unpack hf2 HMB.out hb2); have HF2 := Lib.hid hf2; clear hb2 hv2 hf2)
            | (go_at_call 22; refine HU.out.mono ?_; rintro e w3 ⟨g', rfl, hq3, hf3⟩; have HQ3 := Lib.hid hq3; have HF3 := Lib.hid (HF2.out.trans hf3); clear hq3 hf3))
          obtain ⟨z0, z1⟩ := HZ.out _ (HF3.out.mono (fun _ _ e => e.elim))
          have z1 := FrW.cell z1
          have hLk := Lib.hid (fun W' (hf : Fr (fun _ => False) w3 W') => (HQ3.out.keep hf).looks HMB.out)
          have hOf := Lib.hid (fun W' (hf : Fr (fun _ => False) w3 W') => (HQ3.out.keep hf).fof s)
          have hOx := Lib.hid (fun W' (hf : Fr (fun _ => False) w3 W') => (HQ3.out.keep hf).rof s)
          obtain ⟨SM, hSM⟩ : ∃ S, sumE M s = S := ⟨_, rfl⟩
          rw [hSM] at hOf hOx
          clear hSM
          refine wp_region_fr (by kernel_rfl) (by kernel_rfl) ?_
          repeat (go_big_quiet_step (((first | (go_at_call 24; rename_i Y; refine (hLk.out Y.val Y.fr).mono ?_) | (go_at_call 20; rename_i Y; refine (hOf.out Y.val Y.fr).mono ?_) | (go_at_call 28; rename_i Y; refine (hOx.out Y.val Y.fr).mono ?_)); rintro e w5 ⟨rfl, hF⟩; exact ⟨rfl, ⟨w5, Y.fr.trans hF⟩, rfl⟩)))
          refine wpQuiet_nil ?_
          rintro V ⟨⟨_, hV⟩, rfl⟩
          have HV := Lib.hid hV
          clear z0 z1 hV
          go_wp2_with fail
          go_roundw
          case rel => exact ⟨k + 1, g', M, by omega, by omega, rfl, by go_num, HMB.out, (HQ3.out.keep HV.out).less (fun _ e => e.elim) (fun _ e => e.elim)⟩
          case measure => simp [intOf]; omega
        · have hd5 : (K == 5) = false := by simpa using h5
          clear h5
          go_wp2_with (go_at_call 26; refine (lDo w _ g gr M _ _ ⟨K, s, n, bb, t⟩ HQ1.out HOK.out).mono ?_; rintro e w3 ⟨M3, rfl, hi3, hq3, hf3⟩; have HI3 := Lib.hid hi3; have HQ3 := Lib.hid hq3; have HF3 := Lib.hid hf3; clear hi3 hq3 hf3)
          have HMB3 : Hid (mayBs (M3.map binI) = true) := Lib.hid (by rw [HI3.out.2]; exact HMB.out)
          obtain ⟨z0, z1⟩ := HZ.out _ HF3.out
          have z1 := FrW.cell z1
          have hLk := Lib.hid (fun W' (hf : Fr (fun _ => False) w3 W') => (HQ3.out.keep hf).looks HMB3.out)
          have hOf := Lib.hid (fun W' (hf : Fr (fun _ => False) w3 W') => (HQ3.out.keep hf).fof s)
          have hOx := Lib.hid (fun W' (hf : Fr (fun _ => False) w3 W') => (HQ3.out.keep hf).rof s)
          obtain ⟨SM, hSM⟩ : ∃ S, sumE M3 s = S := ⟨_, rfl⟩
          rw [hSM] at hOf hOx
          clear hSM
          refine wp_region_fr (by kernel_rfl) (by kernel_rfl) ?_
          repeat (go_big_quiet_step (((first | (go_at_call 24; rename_i Y; refine (hLk.out Y.val Y.fr).mono ?_) | (go_at_call 20; rename_i Y; refine (hOf.out Y.val Y.fr).mono ?_) | (go_at_call 28; rename_i Y; refine (hOx.out Y.val Y.fr).mono ?_)); rintro e w5 ⟨rfl, hF⟩; exact ⟨rfl, ⟨w5, Y.fr.trans hF⟩, rfl⟩)))
          refine wpQuiet_nil ?_
          rintro V ⟨⟨_, hV⟩, rfl⟩
          have HV := Lib.hid hV
          clear z0 z1 hV
          go_wp2_with fail
          go_roundw
          case rel => exact ⟨k + 1, g, M3, by omega, by omega, rfl, by go_num, HMB3.out, (HQ3.out.keep HV.out).less (fun _ e => e.elim) (fun _ e => e.elim)⟩
          case measure => simp [intOf]; omega
      · have hkJ : ¬ (k : Int) < 100 := by omega
        go_wp2_with fail
        have HQD := Lib.hid (HQ.out.keep (Fr.refl (fun _ => False) wr).drew)
        go_region_with (first
          | (go_at_call 25; refine HQD.out.fpack.mono ?_; rintro e w6 ⟨v6, rfl, hb6, hv6, hf6⟩; have HQD := Lib.hid (HQD.out.keep hf6); have HB6 := Lib.hid hb6; have hs6 := hb6.string; clear hb6 hv6 hf6)
          | (go_at_call 29; refine HQD.out.rpack.mono ?_; rintro e w7 ⟨v7, rfl, hb7, hv7, hf7⟩; have HQD := Lib.hid (HQD.out.keep hf7); have hs7 := hb7.string; have hs6b := (HB6.out.fr hf7 (fun _ h => h.elim)).string; clear hb7 hv7 hf7))
        all_goals
          go_wp2_with fail
          go_ret
          exact ⟨rfl, HFIN.out _ HQD.out.fr⟩
    · obtain rfl : k = vl := by omega
      have hkI : ¬ (k : Int) < k := by omega
      go_wp2_with fail
      have HQD := Lib.hid (HQ.out.keep (Fr.refl (fun _ => False) wr).drew)
      go_region_with (first
        | (go_at_call 25; refine HQD.out.fpack.mono ?_; rintro e w6 ⟨v6, rfl, hb6, hv6, hf6⟩; have HQD := Lib.hid (HQD.out.keep hf6); have HB6 := Lib.hid hb6; have hs6 := hb6.string; clear hb6 hv6 hf6)
        | (go_at_call 29; refine HQD.out.rpack.mono ?_; rintro e w7 ⟨v7, rfl, hb7, hv7, hf7⟩; have HQD := Lib.hid (HQD.out.keep hf7); have hs7 := hb7.string; have hs6b := (HB6.out.fr hf7 (fun _ h => h.elim)).string; clear hb7 hv7 hf7))
      all_goals
        go_wp2_with fail
        go_ret
        exact ⟨rfl, HFIN.out _ HQD.out.fr⟩
set_option maxRecDepth 100000 in
theorem lifted (os : Os) (started : os.Started) (H : Type) (enc : TypeId × Value → H) :
    ReturnsInHanded {} Tryz.checked os 8 .any (Rows.binsDoesSpec.pre6 enc Tryz.prog Tryz.f8 Rows.binsDoesRow.domain false) (Rows.binsDoesSpec.post enc Tryz.prog Tryz.f8 false true false false) := by
  refine returnsInHanded_of_change (C := Tryz.checked) own started (by kernel_rfl) Tryz.func8
    (ChangeSpec.witness6 (enc := enc) (C := Tryz.checked) false ⟨#[], #[.slice none 0 0, .slice none 0 0], []⟩ 8 (by kernel_rfl) (by kernel_rfl) (by kernel_rfl) (by kernel_rfl)) ?_
  intro W base args ds gs before hval0 hW hcnd _
  have hval : ∀ (j : Nat) t v, Tryz.f8.params[j]? = some t → args[j]? = some v → Value.okWide Tryz.prog W .any base t v := hval0
  have hW' := hW
  obtain ⟨p, q, hA0, hV, rfl, hfz, hnd⟩ := hW
  have hA : DataW.TrodAll enc Tryz.prog W 0 (fun _ => true) true Tryz.f8.params.toList args.toList ds p := hA0
  rw [Tryz.params8] at hA hval
  obtain ⟨v0, vs0, d0, ds0, p0, q0, hargs, rfl, rfl, h0, r0⟩ := trodAll_cons hA
  obtain ⟨v1, vs1, d1, ds1, p1, q1, rfl, rfl, rfl, h1, r1⟩ := trodAll_cons r0
  obtain ⟨rfl, rfl, rfl⟩ := trodAll_nil r1
  obtain rfl : args = #[v0, v1] := by cases args; simp_all
  obtain ⟨rfl, rfl⟩ := trodVars_none hV
  obtain ⟨L0, hL0⟩ := open_bis (hval 0 22 v0 rfl rfl) h0
  obtain ⟨L1, hL1⟩ := open_bops (hval 1 50 v1 rfl rfl) h1
  clear hA0 hval0
  simp only [List.append_nil] at hW'
  refine (walk v0 v1 L0 L1 W hL0 hL1).mono fun e W' ⟨he, hg⟩ => ?_
  subst he
  exact ⟨_, rfl, law_post laidOut (by kernel_rfl) rfl Tryz.underlying4 hW' rfl rfl hg⟩
theorem over : Rows.binsDoesRow.holds Tryz.pinned (OpenSpec.ofChange Rows.binsDoesSpec) :=
  OpenClaim.holds_of_wide 8 Tryz.f8 rfl rfl rfl rfl rfl rfl rfl ⟨rfl, rfl, rfl, rfl, rfl⟩ rfl rfl rfl rfl rfl (by kernel_rfl) Tryz.func8 (by kernel_rfl)
    (of_decide_eq_true (by kernel_rfl)) (by unfold Func.isWrapper; first | (rw [if_pos (by decide +kernel)]; kernel_rfl) | (rw [if_neg (by decide +kernel)]; exact ⟨rfl, rfl⟩))
    (fun os started H enc _ => lifted os started H enc)
theorem proved : Rows.BinsDoesSaid :=
  over
#print axioms proved
end Go.Proofs.YtlniekobijcanaaGreat.binsDoes

