/- entrepotref25.put: a text among texts that rise, once. -/
import Derived.Test.YtbeikkkmobbnkaaGreatModGroupsM44
import Derived.Test.YtbeikkkmobbnkaaGreatModGroupsM1
import Derived.Deep.RegionHeld3
namespace Go.Proofs.YtbeikkkmobbnkaaGreat
open Go.RowKit Go.Maps
theorem infoStr : (Tryz.prog.info? 9).map (fun i => (i.zero, i.size, i.bytes)) = some (some (.string ⟨#[]⟩), 1, 16) := by kernel_rfl
/-- How many stand ahead. -/
def atR (S : List Str) (s : Str) : Nat := (S.takeWhile fun x => decide (x < s)).length
def putR (S : List Str) (s : Str) : List Str := if S[atR S s]? = some s then S else S.take (atR S s) ++ s :: S.drop (atR S s)
theorem atR_eq {s : Str} : ∀ {S : List Str} {j : Nat}, (∀ q x, q < j → S[q]? = some x → x < s) → (∀ x, S[j]? = some x → ¬ x < s) → j ≤ S.length → atR S s = j
  | [], j, _, _, h => by simp at h; subst h; rfl
  | y :: r, 0, _, h2, _ => by
    have := h2 y rfl
    simp [atR, List.takeWhile_cons, this]
  | y :: r, j + 1, h1, h2, h3 => by
    have hy := h1 0 y (by omega) rfl
    have ih := atR_eq (S := r) (j := j) (s := s) (fun q x hq hx => h1 (q + 1) x (by omega) (by simpa using hx)) (fun x hx => h2 x (by simpa using hx)) (by simpa using h3)
    unfold atR at ih ⊢
    rw [List.takeWhile_cons]
    simp [hy, ih]
set_option maxRecDepth 100000 in
set_option maxHeartbeats 8000000 in
theorem r25put (w : World) (base : Nat) (v : Value) (S : List Str) (s : Str) (hown : w.ownsRow base 9 1 v S.length (S.map vS)) (hbs : base ≤ w.heap.size) (hlen : S.length ≤ 100000) :
    Calls Tryz.prog 29 #[v, vS s] w fun e w' => ∃ v', e = .returned v' ∧ w'.ownsRow base 9 1 v' (putR S s).length ((putR S s).map vS) ∧ Fr (fun _ => False) w w' := by
  obtain ⟨a, c, rfl⟩ := row_sl hown
  obtain ⟨n, hn⟩ : ∃ n, S.length = n := ⟨_, rfl⟩
  rw [hn] at hown hlen ⊢
  have HN := Lib.hid hn; have HROW := Lib.hid hown
  have hnI : (n : Int) ≤ 100000 := by omega
  have hrd := Rd.own hown
  have hcell : Hid (∀ q x, S[q]? = some x → ∃ ad, a = some ad ∧ w.cell? (ad.add q) = some (vS x)) := Lib.hid (fun q x hx => hrd.at_ (by have := (List.getElem?_eq_some_iff.1 hx).1; omega) (by rw [List.getElem?_map, hx]; rfl))
  have HB := Lib.hid hbs; have HLN := Lib.hid hlen
  clear hown hn hrd hbs hlen
  go_enter Tryz.func29, Tryz.ntmps29
  go_wp2_with fail
  go_loop [5] (fun i => ∃ j : Nat, j ≤ n ∧ i = .int .i64 j ∧ ∀ q x, q < j → S[q]? = some x → x < s) (fun i => n - (intOf i).toNat)
  case atStart => exact ⟨0, Nat.zero_le _, rfl, fun q x hq => by omega⟩
  case round =>
    obtain ⟨j, hj, rfl, hlo⟩ := hrel
    have HLO := Lib.hid hlo
    clear hlo
    by_cases hend : ∃ x, S[j]? = some x ∧ x < s
    · obtain ⟨x, hx, hxs⟩ := hend
      have hjn : j < n := by have := (List.getElem?_eq_some_iff.1 hx).1; have := HN.out; omega
      have hjI : (j : Int) < n := by omega
      obtain ⟨ad, rfl, hc⟩ := hcell.out j x hx
      have q1 : Op.bytesLess x s = true := by rw [bytesLess_eq]; simpa using hxs
      have hnx : Hid (∀ q y, q < j + 1 → S[q]? = some y → y < s) := Lib.hid (fun q y hq hy => by
        by_cases e : q = j
        · subst e; rw [hx] at hy; injection hy with hy; rw [← hy]; exact hxs
        · exact HLO.out q y (by omega) hy)
      clear hx hxs
      go_wp2_with fail
      go_round
      case rel => exact ⟨j + 1, by omega, by go_num, hnx.out⟩
      case measure => simp [intOf]; omega
    · have hat : atR S s = j := atR_eq HLO.out (fun x hx e => hend ⟨x, hx, e⟩) (by have := HN.out; omega)
      by_cases heq : S[j]? = some s
      · have hres : Hid (putR S s = S) := Lib.hid (by unfold putR; rw [hat, if_pos heq])
        have hjn : j < n := by have := (List.getElem?_eq_some_iff.1 heq).1; have := HN.out; omega
        have hjI : (j : Int) < n := by omega
        obtain ⟨ad, rfl, hc⟩ := hcell.out j s heq
        have q1 : Op.bytesLess s s = false := by rw [bytesLess_eq]; exact decide_eq_false (str_irr s)
        clear heq hend hat
        go_wp2_with fail
        go_ret
        exact ⟨_, rfl, by rw [hres.out, HN.out]; exact HROW.out, Fr.refl _ _⟩
      · have hres : Hid (putR S s = S.take j ++ s :: S.drop j) := Lib.hid (by unfold putR; rw [hat, if_neg heq])
        have hways : (j = n) ∨ (j < n ∧ ∃ x, S[j]? = some x ∧ ¬ x < s ∧ x ≠ s) := by
          by_cases e : j = n
          · exact .inl e
          · refine .inr ⟨by omega, S[j]'(by have := HN.out; omega), List.getElem?_eq_getElem _, fun e2 => hend ⟨_, List.getElem?_eq_getElem _, e2⟩, fun e2 => heq (by rw [List.getElem?_eq_getElem (by have := HN.out; omega), e2])⟩
        obtain ⟨iR, hiR, hr0, hr1, hr2⟩ := info_parts infoStr
        obtain ⟨hs1, hd1⟩ := sub_take HROW.out Tryz.underlying31 hiR hj
        obtain ⟨A2, hs2, hd2, hbk⟩ := sub_drop HROW.out Tryz.underlying31 hiR hr1 hj
        rw [Nat.mul_one, ← List.map_take] at hd1
        rw [Nat.mul_one, ← List.map_drop] at hd2
        have hold : ∀ ad, a = some ad → ad.block < w.heap.size := fun ad e => (HROW.out.lt _ (by rw [e]; rfl)).2
        have HFD : Hid (∀ w', Fr (fun b => w.heap.size ≤ b) w w' → Rd w' 1 a j ((S.take j).map vS)) := Lib.hid (fun w' hf => hd1.fr hf (fun ad e hh => by have := hold ad e; omega))
        have HFE : Hid (∀ w', Fr (fun b => w.heap.size ≤ b) w w' → Rd w' 1 A2 (n - j) ((S.drop j).map vS)) := Lib.hid (fun w' hf => hd2.fr hf (fun ad e hh => by obtain ⟨ad', e', hb⟩ := hbk ad e; have := hold ad' e'; omega))
        have HONE : Hid (∀ T : List Str, ∀ u ∈ T.map vS, u.oneCell' = true) := Lib.hid (fun T u hu => by obtain ⟨x, _, rfl⟩ := List.mem_map.1 hu; rfl)
        have hjn : Hid (j ≤ n ∧ n ≤ 100000) := Lib.hid ⟨hj, HLN.out⟩
        have hcl : Hid (n ≤ c ∧ c ≤ 9223372036854775807) := Lib.hid (own_len HROW.out)
        have hfact : ((¬ (j : Int) < (n : Int)) ∨ ((j : Int) < (n : Int) ∧ ∃ ad x, a = some ad ∧ w.cell? (ad.add j) = some (vS x) ∧ Op.bytesLess x s = false ∧ (x == s) = false)) := by
          rcases hways with e | ⟨e, x, hx, h1, h2⟩
          · exact .inl (by omega)
          · obtain ⟨ad, ea, hc⟩ := hcell.out j x hx
            exact .inr ⟨by omega, ad, x, ea, hc, by rw [bytesLess_eq]; simpa using h1, by simpa using h2⟩
        clear hways hend heq hat hd1 hd2 hold hbk hj
        rcases hfact with hjI | ⟨hjI, ad, x, rfl, hc, q1, q2⟩
        all_goals
          go_wp2_with fail
          go_region_held3 (fun _ => True) (trivial) ((first
            | (refine step_append_src rfl (.tmp 33) (.tmp 36) 31 rfl w.heap.size 9 iR _ 16 Tryz.underlying31 hiR hr0 hr1 hr2 rfl (by decide) _ 0 [] (by rfl) (by first | exact own_none (Nat.le_refl _) | exact (own_none (Nat.le_refl _)).alloc _ | exact own_none (by simp) | exact (Fr.refl (fun _ => False) _).drew.row (own_none' (by simp) (by omega)) (fun _ _ h => h)) c (by rfl) (HFD.out _ (by first | exact ((Fr.refl _ w).drew).alloc _ | exact (((Fr.refl _ w).drew).alloc _).alloc _)) (HONE.out _) (by have := hjn.out; unfold maxLen; omega) (by have := hjn.out; omega) (by simp <;> omega) ?_
               intro v1 w1 hown1 hgrow1 hloc1
               have hF1 : Fr (fun b => w.heap.size ≤ b) w w1 := Fr.trans (by first | exact ((Fr.refl _ w).drew).alloc _ | exact (((Fr.refl _ w).drew).alloc _).alloc _) (Fr.grown hgrow1 (by intro r hr _; cases hr; simp))
               rw [Nat.zero_add, List.nil_append] at hown1
               obtain ⟨a1, c1, rfl⟩ := row_sl hown1
               first
               | have hel : w1.heap[w.heap.size + 1]? = some (.cells #[vS s] 9) := (Fr.grown (S := fun b => b = w.heap.size) hgrow1 (by intro r hr _; cases hr; rfl)).at_ (heap_at (by simp) _) (by omega)
               | have hel : w1.heap[w.heap.size]? = some (.cells #[vS s] 9) := (Fr.grown (S := fun b => b = w.heap.size + 1) hgrow1 (by intro r hr _; cases hr; simp)).at_ (heap_keep (heap_at (by simp) _) _) (by omega)
               | skip)
            | (refine step_append_src rfl (.tmp 37) (.tmp 39) 31 rfl w.heap.size 9 iR _ 16 Tryz.underlying31 hiR hr0 hr1 hr2 rfl (by decide) (.slice a1 j c1) j ((S.take j).map vS) (by rfl) (by first | exact hown1 | exact hown1.alloc _) 1 (by rfl) (by first | exact rd_obj (cs := [vS s]) hel rfl | exact rd_obj (cs := [vS s]) (heap_new _ _) rfl) (HONE.out [s]) (by have := hjn.out; unfold maxLen; omega) (by have := hjn.out; omega) (by first | exact hF1.size | exact (hF1.alloc _).size) ?_
               intro v2 w2 hown2 hgrow2 hloc2
               have hF2 : Fr (fun b => w.heap.size ≤ b) w w2 := Fr.trans (by first | exact hF1 | exact hF1.alloc _) (Fr.grown hgrow2 (by intro r hr _; exact (hown1.lt r hr).1))
               obtain ⟨a2, c2, rfl⟩ := row_sl hown2)
            | (refine step_append_src rfl (.tmp 40) (.tmp 43) 31 rfl w.heap.size 9 iR _ 16 Tryz.underlying31 hiR hr0 hr1 hr2 rfl (by decide) (.slice a2 (j + 1) c2) (j + 1) ((S.take j).map vS ++ [vS s]) (by rfl) hown2 (c - j) (by rfl) (HFE.out _ hF2) (HONE.out _) (by have := hjn.out; unfold maxLen; omega) (by have := hjn.out; omega) hF2.size ?_
               intro v3 w3 hown3 hgrow3 hloc3
               obtain ⟨a3, c3, rfl⟩ := row_sl hown3
               have hF3 : Fr (fun b => w.heap.size ≤ b) w w3 := Fr.trans hF2 (Fr.grown hgrow3 (by intro r hr _; exact (hown2.lt r hr).1)))
            ))
          all_goals
            go_wp2_with fail
            go_ret
            refine ⟨_, rfl, ?_, hF3.mono (fun b hb e => by omega)⟩
            have e1 : (S.take j ++ s :: S.drop j).length = j + 1 + (n - j) := by
              have := HN.out; have := hjn.out
              simp only [List.length_append, List.length_take, List.length_cons, List.length_drop]; omega
            have e2 : (S.take j ++ s :: S.drop j).map vS = (S.take j).map vS ++ [vS s] ++ (S.drop j).map vS := by simp
            rw [hres.out, e1, e2]
            exact own_base hown3 HB.out
end Go.Proofs.YtbeikkkmobbnkaaGreat
