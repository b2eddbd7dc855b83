/- The document's cells (entrepotref01): Maker.Text. -/
import Derived.Test.YtbeikkkmobbnkaaGreatModMoreM19
import Derived.Test.YtbeikkkmobbnkaaGreatModMoreM13
import Derived.Test.YtbeikkkmobbnkaaGreatModMoreM20
import Derived.Lib.AppendStr
namespace Go.Proofs.YtbeikkkmobbnkaaGreat
open Go.RowKit Go.Maps
theorem mkQ_flat {bs c : List Int} (h : bs.length + c.length ≤ 262144) : mkQ (bs, false) c = (bs ++ c, false) := by
  unfold mkQ putB putL
  have : ¬ 262144 < bs.length + c.length := by omega
  simp [this]
theorem strCells_sB (s : Str) : Lib.strCells ⟨s.toArray⟩ = u8s (sB s) := by
  unfold Lib.strCells u8s sB
  simp
theorem own_row_cons {w : World} {base : Nat} {v : Value} {x : Int} {bs : List Int} {n : Nat} (h : w.ownsRow base 5 1 v n ([.int .u8 x] ++ u8s bs)) : w.ownsRow base 5 1 v (x :: bs).length (u8s (x :: bs)) := by
  have hl : n = (x :: bs).length := by have := h.1; simp [u8s] at this; simp; omega
  subst hl
  simpa [u8s] using h
set_option maxRecDepth 100000 in
set_option maxHeartbeats 1000000 in
theorem rNumO (w : World) (n : Int) (hn : okI n) : Calls Tryz.prog 83 #[.int .i64 n] w fun e w' => ∃ v, e = .returned v ∧ w'.ownsRow w.heap.size 5 1 v (numB n).length (u8s (numB n)) ∧ Below w.heap.size w w' := by
  obtain ⟨i0, hi', hz0, hz1, hz2⟩ := info_parts infoU8
  have HN := Lib.hid hn
  have hmem : Hid (∀ y ∈ numB n, 0 ≤ y ∧ y < 256) := Lib.hid (fun y hy => numB_mem hn hy)
  unfold okI at hn
  by_cases h : 0 ≤ n ∧ n < 128
  · obtain ⟨h0, h1⟩ := h
    have e : numB n = [n] := by unfold numB; rw [if_pos ⟨h0, h1⟩]
    rw [e] at hmem ⊢
    go_enter Tryz.func83, Tryz.ntmps83
    go_wp2
    go_ret
    exact ⟨_, rfl, by simpa [u8s] using own_new (w := w) #[.int .u8 n] (Nat.le_refl _) (by simp), (Below.refl _ _).alloc (Nat.le_refl _) _⟩
  · have hU1 := numU_lt HN.out
    have e := numB_big h
    rw [e] at hmem ⊢
    have hs8 : nSz (numU n) ≤ 8 := nSz_le (by omega)
    have hD := fun w => rDigits w (numU n) (by omega)
    obtain ⟨U, hU⟩ : ∃ U, numU n = U := ⟨_, rfl⟩
    rw [hU] at hU1 hs8 hD hmem ⊢
    obtain ⟨s, hs⟩ : ∃ s, nSz U = s := ⟨_, rfl⟩
    obtain ⟨dg, hdg⟩ : ∃ dg, beB U s = dg := ⟨_, rfl⟩
    have hdl : dg.length = s := by rw [← hdg, beB_len]
    rw [hs] at hs8 hD hmem ⊢
    rw [hdg] at hD hmem ⊢
    have HD := Lib.hid hD
    have HDL := Lib.hid hdl
    clear hD hs hdg hdl e
    rcases (by omega : n < 0 ∨ 128 ≤ n) with hneg | hpos
    · have hH : numH n = 144 := if_pos hneg
      have hx : -1 - n = (U : Int) := by rw [← hU]; unfold numU; rw [if_pos hneg]; omega
      rw [hH] at hmem ⊢
      clear hU hH h
      go_enter Tryz.func83, Tryz.ntmps83
      obtain ⟨V, hV⟩ : ∃ V : Nat, IntKind.u64.wrap n = (V : Int) := ⟨(n + 18446744073709551616).toNat, by show n % 18446744073709551616 = _; omega⟩
      have hV2 : V < 18446744073709551616 := by have : n % 18446744073709551616 = (V : Int) := hV; omega
      have HV2 := Lib.hid hV2
      clear hV2
      go_wp2_with fail
      refine (rDigits w V HV2.out).mono ?_
      rintro e w1 ⟨v, rfl, -, hB⟩
      have HB1 := Lib.hid hB
      clear hB hV
      have hxw : IntKind.u64.wrap (U : Int) = (U : Int) := by show (U : Int) % 18446744073709551616 = _; omega
      go_wp2_with fail
      refine (HD.out w1).mono ?_
      rintro e w2 ⟨v2, rfl, hown, hB⟩
      obtain ⟨av, cv, rfl⟩ := row_sl hown
      have hBB := HB1.out.trans (hB.mono HB1.out.size)
      have hsz := hBB.size
      have HOW := Lib.hid (own_base hown HB1.out.size); have HB := Lib.hid hBB
      clear hown hB hBB
      go_wp2_with (at_builtin; refine wpList_append_src rfl _ _ 72 rfl w.heap.size 5 i0 (.int .u8 0) 1 Tryz.underlying72 hi' hz0 hz1 hz2 rfl (by decide) _ 1 [.int .u8 (144 + (s : Int))] rfl (own_new #[.int .u8 (144 + (s : Int))] hsz (by simp)) cv rfl ((Rd.own HOW.out).fr ((Fr.refl (fun _ => False) w2).alloc _) (fun _ _ h => h)) (by intro u hu; simp [u8s] at hu; obtain ⟨x, _, rfl⟩ := hu; rfl) (by unfold maxLen; omega) (by omega) (by simp; omega) ?_; intro v' w3 hown' hgrow _)
      go_ret
      exact ⟨_, rfl, own_row_cons hown', (HB.out.alloc hsz _).grown hgrow (by simp; omega) (fun r hr => by cases hr; exact hsz)⟩
    · have hH : numH n = 128 := if_neg (by omega)
      have hx : n = (U : Int) := by rw [← hU]; unfold numU; rw [if_neg (by omega)]; omega
      rw [hH] at hmem ⊢
      clear hU hH h HN
      subst hx
      go_enter Tryz.func83, Tryz.ntmps83
      go_wp2_with fail
      refine (HD.out w).mono ?_
      rintro e w1 ⟨v, rfl, hown, hB⟩
      obtain ⟨av, cv, rfl⟩ := row_sl hown
      have hsz := hB.size
      have HOW := Lib.hid hown; have HB := Lib.hid hB
      clear hown hB
      go_wp2_with (at_builtin; refine wpList_append_src rfl _ _ 72 rfl w.heap.size 5 i0 (.int .u8 0) 1 Tryz.underlying72 hi' hz0 hz1 hz2 rfl (by decide) _ 1 [.int .u8 (128 + (s : Int))] rfl (own_new #[.int .u8 (128 + (s : Int))] hsz (by simp)) cv rfl ((Rd.own HOW.out).fr ((Fr.refl (fun _ => False) w1).alloc _) (fun _ _ h => h)) (by intro u hu; simp [u8s] at hu; obtain ⟨x, _, rfl⟩ := hu; rfl) (by unfold maxLen; omega) (by omega) (by simp; omega) ?_; intro v' w2 hown' hgrow _)
      go_ret
      exact ⟨_, rfl, own_row_cons hown', (HB.out.alloc hsz _).grown hgrow (by simp; omega) (fun r hr => by cases hr; exact hsz)⟩
set_option maxRecDepth 100000 in
set_option maxHeartbeats 2000000 in
theorem rMText (w : World) (g B : Nat) (s : List Int × Bool) (t : Str) (h : RK w g B s) (ht : t.length ≤ 65536) (hB : B ≤ w.heap.size) :
    Calls Tryz.prog 56 #[.pointer (some ⟨g, 0, none⟩), vS t] w fun e w' => (∃ v, e = .returned v) ∧ RK w' g B (mkQ s (textB t)) ∧ Fr (fun b => b = g) w w' := by
  obtain ⟨i0, hi', hz0, hz1, hz2⟩ := info_parts infoU8
  have HH := Lib.hid h; have hg := h.lt
  obtain ⟨m, hm⟩ : ∃ m, t.length = m := ⟨_, rfl⟩
  obtain ⟨T, hT⟩ : ∃ T, ByteArray.mk t.toArray = T := ⟨_, rfl⟩
  have hTs : T.size = m := by rw [← hT, ← hm]; simp [ByteArray.size]
  have hok : okI (m : Int) := by unfold okI; omega
  have hnl := (numB_len hok).2
  have hcells : Hid (Lib.strCells T = u8s (sB t)) := Lib.hid (by rw [← hT]; exact strCells_sB t)
  have htx : Hid (textB t = numB (m : Int) ++ sB t) := Lib.hid (by unfold textB; rw [hm])
  have hbyt : Hid (∀ y ∈ numB (m : Int) ++ sB t, 0 ≤ y ∧ y < 256) := Lib.hid (fun y hy => by
    rcases List.mem_append.1 hy with e | e
    · exact numB_mem hok e
    · exact sB_byt t y e)
  have hsl : Hid ((sB t).length = m) := Lib.hid (by rw [sB_len, hm])
  obtain ⟨nb, hnb⟩ : ∃ nb, numB (m : Int) = nb := ⟨_, rfl⟩
  rw [hnb] at hnl htx hbyt
  have HTS := Lib.hid hTs; have HNL := Lib.hid hnl
  have hmI : (m : Int) ≤ 65536 := by omega
  rw [← hTs] at hmI
  have hN2 : Hid (∀ W : World, Calls Tryz.prog 83 #[.int .i64 (T.size : Int)] W fun e w' => ∃ v, e = .returned v ∧ w'.ownsRow W.heap.size 5 1 v nb.length (u8s nb) ∧ Below W.heap.size W w') := Lib.hid (fun W => by
    have := rNumO W (m : Int) hok
    rw [hnb] at this
    rw [HTS.out]; exact this)
  clear h ht hnb hm hTs hok
  unfold vS
  rw [hT]
  clear hT
  go_enter Tryz.func56, Tryz.ntmps56
  go_wp2_with fail
  refine (hN2.out w).mono ?_
  rintro e w1 ⟨v, rfl, hv, hb⟩
  obtain ⟨av, cv, rfl⟩ := row_sl hv
  obtain ⟨nl, hnl2⟩ : ∃ nl, nb.length = nl := ⟨_, rfl⟩
  have HNL2 := Lib.hid hnl2
  rw [hnl2] at hv hnl ⊢
  have HV := Lib.hid hv; have HB := Lib.hid hb
  have hsz : w.heap.size ≤ w1.heap.size := hb.size
  clear hv hb hnl2
  go_wp2_with (first
    | (at_builtin; (refine Lib.wpList_append_own_string _ rfl _ _ 72 9 rfl w.heap.size 5 i0 Tryz.underlying72 Tryz.underlying9 hi' hz0 hz1 hz2 _ _ _ rfl HV.out T rfl (by unfold maxLen; omega) (by omega) hsz ?_; intro v2 w2 hown2 hgrow2 _; have HO2 := Lib.hid hown2; have HF2 : Hid (Fr (fun b => w.heap.size ≤ b) w w2) := Lib.hid ((Fr.below HB.out).trans (Fr.grown hgrow2 (fun r hr _ => (HV.out.lt r hr).1))); clear hown2 hgrow2)))
  have hbs : Bs w2 v2 (nb ++ sB t) := by
    have := HO2.out
    rw [hcells.out, HTS.out] at this
    have e1 : u8s nb ++ u8s (sB t) = u8s (nb ++ sB t) := by simp [u8s]
    have e2 : nl + m = (nb ++ sB t).length := by rw [List.length_append, HNL2.out, hsl.out]
    rw [e1, e2] at this
    exact (Bs.own this hbyt.out).1
  have hF2' : Fr (fun _ => False) w w2 := HF2.out.mono (fun b hb e => by omega)
  refine (rPut w2 g B s v2 (nb ++ sB t) (HH.out.fr hF2' (fun _ _ h => h)) hbs (by rw [List.length_append, HNL2.out, hsl.out]; have := HTS.out; omega) (Nat.le_trans hB hF2'.size)).mono ?_
  rintro e w3 ⟨⟨v3, rfl⟩, hk, hf⟩
  have HK := Lib.hid hk; have HF3 := Lib.hid ((hF2'.mono (S' := fun b => b = g) (fun _ _ e => e.elim)).trans hf)
  clear hk hf
  go_wp2_with fail
  go_end0
  exact ⟨⟨_, rfl⟩, by rw [htx.out]; exact HK.out, HF3.out⟩
end Go.Proofs.YtbeikkkmobbnkaaGreat
