/- bins: for every input BinsUnpacks returns true and leaves its input as it was; no condition. -/
import Derived.Test.YtlniekobijcanaaGreatRows
import Derived.Test.YtlniekobijcanaaGreatBinsUnpacksM12
import Derived.Test.YtlniekobijcanaaGreatBinsUnpacksM13
import Derived.Test.YtlniekobijcanaaGreatBinsUnpacksM14
import Derived.Test.YtlniekobijcanaaGreatBinsUnpacksM2
import Derived.Deep.RegionWith
import Derived.Deep.QuietTactic
import Derived.BigQuiet
namespace Go.Proofs.YtlniekobijcanaaGreat.binsUnpacks
open Go.ChangeShapes Go.WideShapes Go.ChangeAt Go.RowKit Go.Maps
set_option maxRecDepth 100000 in
set_option maxHeartbeats 4000000 in
theorem walk (v : Value) (bs : List Int) (w : World) (hb : Bs w v bs) (hcap : ∀ a n c, v = .slice a n c → n ≤ c) (hob : ∀ b, v.ownBlock = some b → b < w.heap.size) (hl : (bs.length : Int) ≤ 140737488351232) :
    Calls Tryz.prog 6 #[v] w fun e w' => e = .returned (.bool true) ∧ Below w.heap.size w w' := by
  have hby : Byt bs := by
    intro x hx
    obtain ⟨i, hi⟩ := List.getElem?_of_mem hx
    obtain ⟨_, _, _, _, hh⟩ := hb
    obtain ⟨b0, b1, _⟩ := hh i x hi
    exact ⟨b0, b1⟩
  obtain ⟨_, a, cap, rfl, _⟩ := id hb
  obtain ⟨i0, hi', hz0, hz1, hz2⟩ := info_parts infoU8
  obtain ⟨n, hn⟩ : ∃ n, bs.length = n := ⟨_, rfl⟩
  have HBS := Lib.hid hb; have HCAP := Lib.hid hcap; have HOB := Lib.hid hob; have HBY := Lib.hid hby; have HN := Lib.hid hn
  have HRD : Hid (Rd w 1 a n (u8s bs)) := Lib.hid (by have := hb.rdA; rw [hn] at this; exact this)
  have hone : Hid (∀ u ∈ u8s bs, u.oneCell' = true) := Lib.hid (by intro u hu; simp [u8s] at hu; obtain ⟨x, _, rfl⟩ := hu; rfl)
  have HL := Lib.hid hl
  rw [hn] at hl HBS HCAP HOB ⊢
  clear hb hcap hob hby hn
  go_enter Tryz.func6, Tryz.ntmps6
  go_wp2_with (at_builtin; refine wpList_append_src rfl _ _ 42 rfl w.heap.size 5 i0 (.int .u8 0) 1 Tryz.underlying42 hi' hz0 hz1 hz2 rfl (by decide) _ 0 [] rfl (own_new #[] (Nat.le_refl _) (by simp)) cap rfl (HRD.out.fr ((Fr.refl (fun _ => False) w).alloc (.cells #[] 5)) (fun _ _ h => h)) hone.out (by unfold maxLen; omega) (by omega) (by simp) ?_; intro v1 w1 hown1 hgrow1 hloc1; have hF1 : Hid (Fr (fun b => w.heap.size ≤ b) w w1) := Lib.hid (((Fr.refl _ w).alloc (.cells #[] 5)).trans (Fr.grown hgrow1 (fun r hr _ => by cases hr; exact Nat.le_refl _))); have HO1 := Lib.hid hown1; clear hown1 hgrow1 hloc1)
  have hB1 : Bn w.heap.size w1 v1 bs := by
    refine Bs.own ?_ HBY.out
    have := HO1.out
    rw [Nat.zero_add, List.nil_append] at this
    rw [HN.out]; exact this
  have HB1 := Lib.hid hB1.1
  have hlt1 := fun b hb => (HO1.out.lt b hb).2
  have hrec : ∀ {w' : World}, Fr (fun b => w.heap.size ≤ b) w w' → Bs w' (.slice a n cap) bs := fun {w'} hf => HBS.out.fr hf (fun _ h => h)
  have HREC := Lib.hid (fun w' => @hrec w')
  have HU := Lib.hid (bUnpack w1 v1 bs HB1.out HL.out HBY.out)
  clear hrec hB1 hlt1
  refine HU.out.mono ?_
  rintro e w2 ⟨hf2, hcase⟩
  have hF2 := Lib.hid (hF1.out.trans' hf2 (fun b _ e => e.elim))
  have HB2 := Lib.hid (HB1.out.fr hf2 (fun _ h => h.elim))
  have hY := Lib.hid (rUnp w2 (.slice a n cap) bs (HREC.out _ hF2.out) HCAP.out (fun b hb => Nat.lt_of_lt_of_le (HOB.out b hb) hF2.out.size))
  have hlv := Lib.hid (fun W => lLives W)
  obtain ⟨Z, hZ⟩ : ∃ Z, unpackE bs = Z := ⟨_, rfl⟩
  rw [hZ] at hcase hY
  have HZ := Lib.hid hZ
  clear hZ HU hf2
  cases Z with
  | none =>
    dsimp only at hcase
    subst hcase
    go_wp2_with fail
    refine hY.out.mono ?_
    rintro e w3 ⟨hf3, rfl⟩
    have hF3 := Lib.hid (hF2.out.trans' hf3 (fun b _ e => e.elim))
    have HB3 := Lib.hid (HB2.out.fr hf3 (fun _ h => h.elim))
    clear hf3
    go_wp2_with (go_at_call 10; refine (hlv.out _).mono ?_; rintro e w4 ⟨rfl, hf4⟩; have hF4 := Lib.hid (hF3.out.trans' hf4 (fun b _ e => e.elim)); have hs1 := (HB3.out.fr hf4 (fun _ h => h.elim)).string; have hs2 := (HREC.out _ hF4.out).string; clear hf4)
    clear hs1 hs2
    go_quiet (fail)
    go_wp2_with fail
    go_ret
    exact ⟨rfl, (hF4.out.drewN _).toBelow (fun b h => h) (Nat.le_refl _)⟩
  | some A =>
    dsimp only at hcase
    obtain ⟨g, TS, LA, rfl, hTA, hLA, hTS⟩ := hcase
    have HTA := Lib.hid hTA
    obtain ⟨hG, hok, hfl⟩ := unpackE_some HZ.out
    have HG := Lib.hid (mayBs_rise hG); have HOK := Lib.hid hok; have HFL := Lib.hid (hfl HBY.out); have HLA := Lib.hid hLA
    clear hTA hTS hG hfl hok hLA
    go_wp2_with fail
    refine hY.out.mono ?_
    rintro e w3 ⟨hf3, gx, TX, LX, rfl, hTX, hLX, -⟩
    have hF3 := Lib.hid (hF2.out.trans' hf3 (fun b _ e => e.elim))
    have HB3 := Lib.hid (HB2.out.fr hf3 (fun _ h => h.elim))
    have HTA3 := Lib.hid (HTA.out.fr hf3 (fun _ _ h => h))
    have HTX3 := Lib.hid hTX
    have HLX := Lib.hid hLX
    clear hf3 hTX hLX
    go_wp2_with (go_at_call 10; refine (hlv.out _).mono ?_; rintro e w4 ⟨rfl, hf4⟩; have hF4 := Lib.hid (hF3.out.trans' hf4 (fun b _ e => e.elim)); have hs1 := (HB3.out.fr hf4 (fun _ h => h.elim)).string; have hs2 := (HREC.out _ hF4.out).string; have HTA4 := Lib.hid (HTA3.out.fr hf4 (fun _ _ h => h)); have HTX4 := Lib.hid (HTX3.out.fr hf4 (fun _ _ h => h)); clear hf4)
    clear hs1
    have HD := Lib.hid ((Fr.refl (fun _ => False) w4).drew)
    have hs2 := (HREC.out _ (hF4.out.drew)).string
    go_region_with (first
      | (go_at_call 24; refine (lLooks _ g gx TS LA LX A (HTA4.out.fr HD.out (fun _ _ h => h)) (HTX4.out.fr HD.out (fun _ _ h => h)).rl HLA.out HLX.out HG.out.2.1 HG.out.2.2.1 HOK.out HG.out.1).mono ?_; rintro e w5 ⟨rfl, hb5⟩; have HD := Lib.hid (HD.out.trans hb5); have hs2 := (HREC.out _ (hF4.out.trans' HD.out (fun _ _ h => h.elim))).string; clear hb5)
      | (go_at_call 25; refine (bPack _ g LA (HTA4.out.fr HD.out (fun _ _ h => h)).fl (by have := HG.out.2.1; rw [← HLA.out, List.length_map] at this; exact this) (by have := HG.out.2.2.1; rw [← HLA.out, List.length_map] at this; exact this) (by rw [HLA.out]; exact HOK.out)).mono ?_; rintro e w6 ⟨v6, rfl, hv6, hb6⟩; have HD := Lib.hid (HD.out.trans hb6); have hs2 := (HREC.out _ (hF4.out.trans' HD.out (fun _ _ h => h.elim))).string; rw [HLA.out, HFL.out] at hv6; have hs3 := (Bs.own hv6 HBY.out).1.string; clear hb6 hv6))
    all_goals
      go_wp2_with fail
      go_ret
      exact ⟨rfl, (hF4.out.trans' HD.out (fun _ _ h => h.elim)).toBelow (fun b h => h) (Nat.le_refl _)⟩
set_option maxRecDepth 100000 in
theorem lifted (os : Os) (started : os.Started) (H : Type) (enc : TypeId × Value → H) :
    ReturnsInHanded {} Tryz.checked os 6 .any (Rows.binsUnpacksSpec.pre6 enc Tryz.prog Tryz.f6 Rows.binsUnpacksRow.domain false) (Rows.binsUnpacksSpec.post enc Tryz.prog Tryz.f6 false true false false) := by
  refine returnsInHanded_of_change_sized (C := Tryz.checked) own started (by kernel_rfl) Tryz.func6
    (ChangeSpec.witness6 (enc := enc) (C := Tryz.checked) false ⟨#[], #[.slice none 0 0], []⟩ 8 (by kernel_rfl) (by kernel_rfl) (by kernel_rfl) (by kernel_rfl)) ?_
  intro W base args ds gs before hval0 hW hcnd hsz _
  have hval : ∀ (j : Nat) t v, Tryz.f6.params[j]? = some t → args[j]? = some v → Value.okWide Tryz.prog W .any base t v := hval0
  have hW' := hW
  obtain ⟨p, q, hA0, hV, rfl, hfz, hnd⟩ := hW
  have hA : DataW.TrodAll enc Tryz.prog W 0 (fun _ => true) true Tryz.f6.params.toList args.toList ds p := hA0
  rw [Tryz.params6] at hA hval hsz
  obtain ⟨v0, vs0, d0, ds0, p0, q0, hargs, rfl, rfl, h0, r0⟩ := trodAll_cons hA
  obtain ⟨rfl, rfl, rfl⟩ := trodAll_nil r0
  obtain rfl : args = #[v0] := by cases args; simp_all
  obtain ⟨rfl, rfl⟩ := trodVars_none hV
  obtain ⟨bs, hb, hc, ho, hl⟩ := open_bytes (j := 0) (hval 0 42 v0 rfl rfl) h0 hsz rfl rfl
  clear hA0 hval0
  simp only [List.append_nil] at hW'
  refine (walk v0 bs W hb hc ho hl).mono fun e W' ⟨he, hg⟩ => ?_
  subst he
  exact ⟨_, rfl, law_post laidOut (by kernel_rfl) rfl Tryz.underlying4 hW' rfl rfl hg⟩
theorem over : Rows.binsUnpacksRow.holds Tryz.pinned (OpenSpec.ofChange Rows.binsUnpacksSpec) :=
  OpenClaim.holds_of_wide 6 Tryz.f6 rfl rfl rfl rfl rfl rfl rfl ⟨rfl, rfl, rfl, rfl, rfl⟩ rfl rfl rfl rfl rfl (by kernel_rfl) Tryz.func6 (by kernel_rfl)
    (of_decide_eq_true (by kernel_rfl)) (by unfold Func.isWrapper; first | (rw [if_pos (by decide +kernel)]; kernel_rfl) | (rw [if_neg (by decide +kernel)]; exact ⟨rfl, rfl⟩))
    (fun os started H enc _ => lifted os started H enc)
theorem proved : Rows.BinsUnpacksSaid :=
  over
#print axioms proved
end Go.Proofs.YtlniekobijcanaaGreat.binsUnpacks
