/- entrepotref25: Right, Group, Order. -/
import Derived.Test.YtbeikkkmobbnkaaGreatModSpansM3
import Derived.Test.YtbeikkkmobbnkaaGreatModSpansM4
namespace Go.Proofs.YtbeikkkmobbnkaaGreat
open Go.RowKit Go.Maps
theorem infoAsk : (Tryz.prog.info? 50).map (fun i => (i.zero, i.size, i.bytes)) = some (some (.agg #[.int .i64 0, .int .i64 0, .int .i64 0, .int .i64 0, .int .i64 0, .int .i64 0, .int .i64 0, .string ⟨#[]⟩, .slice none 0 0]), 9, 96) := by kernel_rfl
/-- An append to a row of the call's own turns nothing old. -/
theorem frGrown {w wr w1 : World} {e : TypeId} {size n : Nat} {v : Value} {xs : List Value} {tmp : Obj} (hf : Fr (fun _ => False) w wr) (h : wr.ownsRow w.heap.size e size v n xs) (hg : (wr.alloc tmp).grownBy w1 v.ownBlock) : Fr (fun _ => False) w w1 :=
  (hf.alloc tmp).trans' (Fr.grown (S := fun b => v.ownBlock = some b) hg (fun r e _ => e)) (fun b hb e => by have := (h.lt b e).1; omega)
theorem cellsNew (w : World) (t : TypeId) (cs : Array Value) : ∀ j u, cs.toList[j]? = some u → (w.alloc (.cells cs t)).cell? ((⟨w.heap.size, 0, none⟩ : Addr).add j) = some u := fun j u h => by
  have e0 : (⟨w.heap.size, 0, none⟩ : Addr).add j = ⟨w.heap.size, j, none⟩ := by unfold Addr.add; split <;> simp_all
  rw [e0]; exact cell_obj (heap_new w _) j u (by simpa using h)
theorem avOne {w : World} {a : AV} (h : AOk w a) : ∀ u ∈ a.cs, u.oneCell' = true := by
  obtain ⟨x, y, e⟩ := h.l.sl
  intro u hu
  simp only [AV.cs, e] at hu
  simp at hu
  rcases hu with rfl | rfl | rfl | rfl | rfl | rfl | rfl | rfl | rfl <;> rfl
theorem flatA_snoc (L : List AV) (a : AV) : flat AV.cs (L ++ [a]) = flat AV.cs L ++ a.cs.toList := by simp [flat]
theorem rightL_len (L : List AV) (k : Nat) : (rightL (L.take k)).length ≤ L.length := by
  unfold rightL
  have := List.length_filter_le AV.may (L.take k)
  have : (L.take k).length ≤ L.length := by rw [List.length_take]; omega
  omega
set_option maxRecDepth 100000 in
set_option maxHeartbeats 4000000 in
theorem r25Right (w : World) (v : Value) (L : List AV) (h : Al w v L) (hl : L.length ≤ 1000) : Calls Tryz.prog 26 #[v] w fun e w' => ∃ v', e = .returned v' ∧ w'.ownsRow w.heap.size 50 9 v' (rightL L).length (flat AV.cs (rightL L)) ∧ Fr (fun _ => False) w w' := by
  obtain ⟨i0, hi', hz0, hz1, hz2⟩ := info_parts infoAsk
  obtain ⟨a, c, rfl⟩ := h.sl
  obtain ⟨N, hN⟩ : ∃ N, L.length = N := ⟨_, rfl⟩
  have HL := Lib.hid h; have HN := Lib.hid hN
  have hNb : (N : Int) ≤ 1000 := by omega
  have hrl : Hid (∀ k, (rightL (L.take k)).length ≤ N) := Lib.hid (fun k => by rw [← hN]; exact rightL_len L k)
  rw [hN] at HL ⊢
  clear h hN hl
  go_enter Tryz.func26, Tryz.ntmps26
  go_wp2_with fail
  go_loopw [3, 4] (fun v i wr => ∃ k : Nat, k ≤ N ∧ i = .int .i64 k ∧ wr.ownsRow w.heap.size 50 9 v (rightL (L.take k)).length (flat AV.cs (rightL (L.take k))) ∧ Fr (fun _ => False) w wr) (fun _ i _ => N - (intOf i).toNat)
  case atStart => exact ⟨0, Nat.zero_le _, rfl, World.ownsRow_nil _ _ _ _, Fr.refl _ _⟩
  case round =>
    obtain ⟨k, hk, rfl, hown, hfr⟩ := hrel
    have HFR := Lib.hid hfr; have HO := Lib.hid hown
    by_cases hlt : k < N
    · obtain ⟨p, hp⟩ : ∃ p, L[k]? = some p := ⟨L[k]'(by rw [HN.out]; exact hlt), List.getElem?_eq_getElem _⟩
      obtain ⟨ad, rfl, hok, z0, zs⟩ := (HL.out.fr0 aokKeeps hfr).at_ hp
      have hM := r10May wr p hok
      have hone := avOne hok
      obtain ⟨c', n, kd, o, r, t, m, g, l, its⟩ := p
      obtain ⟨la, lc, hl⟩ := hok.l.sl
      dsimp only at hl
      subst hl
      have x0 := z0 (.int .i64 c') rfl
      have x1 := zs 0 (.int .i64 n) rfl
      have x2 := zs 1 (.int .i64 kd) rfl
      have x3 := zs 2 (.int .i64 o) rfl
      have x4 := zs 3 (.int .i64 r) rfl
      have x5 := zs 4 (.int .i64 t) rfl
      have x6 := zs 5 (.int .i64 m) rfl
      have x7 := zs 6 (vS g) rfl
      have x8 := zs 7 (.slice la its.length lc) rfl
      dsimp only [Nat.zero_add, Nat.reduceAdd] at x0 x1 x2 x3 x4 x5 x6 x7 x8
      obtain ⟨P, hP⟩ : ∃ P : AV, P = ⟨c', n, kd, o, r, t, m, g, .slice la its.length lc, its⟩ := ⟨_, rfl⟩
      rw [← hP] at hp hM hone
      have hcs : P.cs = #[.int .i64 c', .int .i64 n, .int .i64 kd, .int .i64 o, .int .i64 r, .int .i64 t, .int .i64 m, vS g, .slice la its.length lc] := by rw [hP]; rfl
      obtain ⟨M, hM2⟩ : ∃ M, its.length = M := ⟨_, rfl⟩
      rw [hM2] at x8 hcs
      rw [hcs] at hM hone
      have hlI : (k : Int) < N := by omega
      have HP := Lib.hid hp; have HCS := Lib.hid hcs; have HONE := Lib.hid hone
      have hcells : Hid (∀ W, Fr (fun _ => False) wr W → W.cell? (ad.add (k * 9)) = some (.int .i64 c') ∧ W.cell? ⟨(ad.add (k * 9)).block, (ad.add (k * 9)).off + 1, none⟩ = some (.int .i64 n) ∧ W.cell? ⟨(ad.add (k * 9)).block, (ad.add (k * 9)).off + 2, none⟩ = some (.int .i64 kd) ∧ W.cell? ⟨(ad.add (k * 9)).block, (ad.add (k * 9)).off + 3, none⟩ = some (.int .i64 o) ∧ W.cell? ⟨(ad.add (k * 9)).block, (ad.add (k * 9)).off + 4, none⟩ = some (.int .i64 r) ∧ W.cell? ⟨(ad.add (k * 9)).block, (ad.add (k * 9)).off + 5, none⟩ = some (.int .i64 t) ∧ W.cell? ⟨(ad.add (k * 9)).block, (ad.add (k * 9)).off + 6, none⟩ = some (.int .i64 m) ∧ W.cell? ⟨(ad.add (k * 9)).block, (ad.add (k * 9)).off + 7, none⟩ = some (vS g) ∧ W.cell? ⟨(ad.add (k * 9)).block, (ad.add (k * 9)).off + 8, none⟩ = some (.slice la M lc)) :=
        Lib.hid (fun W hf => ⟨hf.cell x0 (fun h => h), hf.cell x1 (fun h => h), hf.cell x2 (fun h => h), hf.cell x3 (fun h => h), hf.cell x4 (fun h => h), hf.cell x5 (fun h => h), hf.cell x6 (fun h => h), hf.cell x7 (fun h => h), hf.cell x8 (fun h => h)⟩)
      have hz : Hid ((rightL (L.take k)).length ≤ N) := Lib.hid (hrl.out k)
      obtain ⟨q, hq⟩ : ∃ q, (rightL (L.take k)).length = q := ⟨_, rfl⟩
      obtain ⟨F, hFl⟩ : ∃ F, flat AV.cs (rightL (L.take k)) = F := ⟨_, rfl⟩
      have hql : Hid (q ≤ 1000) := Lib.hid (by have := hz.out; omega)
      have hstep : Hid (P.may = true → (rightL (L.take (k + 1))).length = q + 1 ∧ flat AV.cs (rightL (L.take (k + 1))) = F ++ [.int .i64 c', .int .i64 n, .int .i64 kd, .int .i64 o, .int .i64 r, .int .i64 t, .int .i64 m, vS g, .slice la M lc]) := Lib.hid (fun hm => by
        rw [rightL_yes hp hm, List.length_append, hq, flatA_snoc, hFl, hcs]
        exact ⟨rfl, rfl⟩)
      have hskip : Hid (P.may = false → (rightL (L.take (k + 1))).length = q ∧ flat AV.cs (rightL (L.take (k + 1))) = F) := Lib.hid (fun hm => by rw [rightL_no hp hm]; exact ⟨hq, hFl⟩)
      rw [hq, hFl] at HO
      clear hP hM2 hp hcs hok z0 zs hfr hown hq hFl hone hz
      cases hmy : P.may with
      | false =>
        obtain ⟨s1, s2⟩ := hskip.out hmy
        have HS := Lib.hid (⟨s1, s2⟩ : (rightL (L.take (k + 1))).length = q ∧ flat AV.cs (rightL (L.take (k + 1))) = F)
        rw [hmy] at hM
        have HM := Lib.hid hM
        clear hmy s1 s2 hM
        go_wp2_with (go_at_call 47; refine HM.out.mono ?_; rintro e w1 ⟨rfl, hf1⟩; have HF1 := Lib.hid hf1; clear hf1)
        go_roundw
        case rel => exact ⟨k + 1, by omega, by go_num, by rw [HS.out.1, HS.out.2]; exact HF1.out.row HO.out (fun _ _ h => h), HFR.out.trans HF1.out⟩
        case measure => simp [intOf]; omega
      | true =>
        obtain ⟨s1, s2⟩ := hstep.out hmy
        have HS := Lib.hid (⟨s1, s2⟩ : (rightL (L.take (k + 1))).length = q + 1 ∧ flat AV.cs (rightL (L.take (k + 1))) = F ++ [.int .i64 c', .int .i64 n, .int .i64 kd, .int .i64 o, .int .i64 r, .int .i64 t, .int .i64 m, vS g, .slice la M lc])
        rw [hmy] at hM
        have HM := Lib.hid hM
        clear hmy s1 s2 hM
        go_wp2_with (first
          | (go_at_call 47; refine HM.out.mono ?_; rintro e w1 ⟨rfl, hf1⟩; have HF1 := Lib.hid hf1; obtain ⟨y0, y1, y2, y3, y4, y5, y6, y7, y8⟩ := hcells.out _ hf1; have HO1 := Lib.hid (hf1.row HO.out (fun _ _ h => h)); clear hf1)
          | (at_builtin; refine wpList_append_own _ rfl _ _ 22 rfl w.heap.size 50 i0 _ 9 96 Tryz.underlying22 hi' hz0 hz1 hz2 rfl (by decide) _ q F rfl (HO1.out.alloc _) ⟨w1.heap.size, 0, none⟩ 1 1 [.int .i64 c', .int .i64 n, .int .i64 kd, .int .i64 o, .int .i64 r, .int .i64 t, .int .i64 m, vS g, .slice la M lc] rfl rfl (cellsNew _ _ _) (fun u hu => HONE.out u (by simpa using hu)) (by have := hql.out; unfold maxLen; omega) (by have := hql.out; omega) (by have := (HFR.out.trans HF1.out).size; simp; omega) ?_; intro v' w2 hown' hgrow hnil))
        go_roundw
        case rel => exact ⟨k + 1, by omega, by go_num, by rw [HS.out.1, HS.out.2]; exact hown', frGrown (HFR.out.trans HF1.out) HO1.out hgrow⟩
        case measure => simp [intOf]; omega
    · obtain rfl : k = N := by omega
      have hall : L.take k = L := List.take_of_length_le (by rw [HN.out]; exact Nat.le_refl _)
      rw [hall] at HO
      clear hall hfr hown
      go_wp2_with fail
      go_ret
      exact ⟨_, rfl, HO.out, HFR.out⟩
end Go.Proofs.YtbeikkkmobbnkaaGreat
