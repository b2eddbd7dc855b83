/- entrepotlaw09.Looks: the walk. -/
import Derived.Test.YtakjiicnbocjeaaIdDoesM46
import Derived.Test.YtakjiicnbocjeaaIdDoesM2
import Derived.Test.YtakjiicnbocjeaaIdDoesM1
import Derived.Test.YtakjiicnbocjeaaIdDoesM22
import Derived.Deep.RegionWith
import Derived.Deep.RegionLaw
namespace Go.Proofs.Ytakjiicnbocjeaa
open Go.RowKit Go.Maps
attribute [local go_sem] Oper.semAt_some
theorem infoPair : (Try.prog.info? 36).map (fun i => (i.zero, i.size, i.bytes)) = some (some (.agg #[.int .i64 0, .int .i64 0]), 2, 16) := by kernel_rfl
theorem intEqS (w : World) (d : Nat) (x : Int) : (Op.equalIn (d + 1) 3 (.int .i64 x) (.int .i64 x)).run Try.prog w = .ok true w := by
  simp [Op.equalIn, run_underlying Try.underlying3]
theorem pairEqD (w : World) (d : Nat) (x y : Int) : (Op.equalIn (d + 2) 36 (.agg #[.int .i64 x, .int .i64 y]) (.agg #[.int .i64 x, .int .i64 y])).run Try.prog w = .ok true w := by
  have h1 := intEqS w d x
  have h2 := intEqS w d y
  have hp : (part 3 #[.int .i64 x, .int .i64 y] 0).run Try.prog w = .ok (.int .i64 x) w := by kernel_rfl
  have hq : (part 3 #[.int .i64 x, .int .i64 y] 1).run Try.prog w = .ok (.int .i64 y) w := by kernel_rfl
  have hs : (sizeOf 3).run Try.prog w = .ok 1 w := by kernel_rfl
  unfold Op.equalIn
  simp only [Sem.run_bind, run_underlying Try.underlying36, Result.andThen_ok, hs]
  simp [Std.Legacy.Range.forIn_eq_forIn_range', Std.Legacy.Range.size, List.range', hp, hq, h1, h2]
structure LkI (w0 w : World) (n0 wb g : Nat) (L : List (Int × Int)) : Prop where
  res : w.heap[n0]? = some (.cells #[.bool false] 4)
  bt : w.heap[n0 + 1]? = some (.cells #[.pointer (some ⟨g, 0, none⟩)] 23)
  box : ∃ a c, w.heap[wb]? = some (.cells #[.slice a L.length c] 93) ∧ w.ownsRow n0 36 2 (.slice a L.length c) L.length (pairCs L)
  fr : Fr (fun b => n0 ≤ b) w0 w
  wbe : wb = n0 + 2
section
variable {w0 w w' w1 : World} {n0 wb g : Nat} {L : List (Int × Int)}
theorem own_other {u : Value} {n base j : Nat} {xs : List Value} {cs : Array Value} {t : TypeId} (h : w.ownsRow base 36 2 u n xs) (ho : w.heap[j]? = some (.cells cs t)) (ht : t ≠ 36) : ∀ b, u.ownBlock = some b → b ≠ j := by
  intro b hb e
  subst e
  rcases h.2 with ⟨rfl, _⟩ | ⟨g', c', cur, e1, _, h7, _⟩
  · cases hb
  · subst e1
    cases hb
    rw [ho] at h7
    injection h7 with h7
    injection h7 with _ h8
    exact ht h8
theorem LkI.keep (h : LkI w0 w n0 wb g L) (hf : Fr (fun _ => False) w w') : LkI w0 w' n0 wb g L := by
  obtain ⟨h1, h2, ⟨a, c, h3, h4⟩, h5, h6⟩ := h
  exact ⟨hf.at_ h1 (fun h => h), hf.at_ h2 (fun h => h), ⟨a, c, hf.at_ h3 (fun h => h), hf.row h4 (fun _ _ h => h)⟩, h5.trans' hf (fun _ _ e => e.elim), h6⟩
theorem LkI.fa {B : Nat} (h : LkI w0 w n0 wb g L) (hf : Fa B w w') (hB : w0.heap.size ≤ B) : LkI w0 w' n0 wb g L := by
  obtain ⟨h1, h2, ⟨a, c, h3, h4⟩, h5, h6⟩ := h
  refine ⟨Fa.cells hf h1, Fa.cells hf h2, ⟨a, c, Fa.cells hf h3, Fa.row hf h4⟩, h5.trans' hf (fun b hb e => ?_), h6⟩
  have := e.1
  omega
theorem LkI.n (h : LkI w0 w n0 wb g L) {nb : Nat} {v : Value} (hn : w.heap[nb]? = some (.cells #[v] 3)) (u : Value) (h0 : n0 ≤ nb) : LkI w0 (w.setCell ⟨nb, 0, none⟩ u) n0 wb g L := by
  obtain ⟨h1, h2, ⟨a, c, h3, h4⟩, h5, h6⟩ := h
  have hF : Fr (fun b => b = nb) w (w.setCell ⟨nb, 0, none⟩ u) := (Fr.refl (fun b => b = nb) w).setCell (p := ⟨nb, 0, none⟩) (fun _ => rfl) _
  have hne : ∀ {j : Nat} {cs : Array Value} {t : TypeId}, w.heap[j]? = some (.cells cs t) → t ≠ 3 → j ≠ nb := by
    intro j cs t hj ht e
    subst e
    rw [hj] at hn
    injection hn with hn
    injection hn with _ h8
    exact ht h8
  exact ⟨hF.at_ h1 (hne h1 (by decide)), hF.at_ h2 (hne h2 (by decide)), ⟨a, c, hF.at_ h3 (hne h3 (by decide)), hF.row h4 (fun b hb e => own_other h4 hn (by decide) b hb e)⟩, h5.trans' hF (fun b _ e => by omega), h6⟩
def LkJ (w0 : World) (n0 wb g nb : Nat) (L : List (Int × Int)) (k : Nat) (_ : Nat → Prop) (W : World) : Prop := LkI w0 W n0 wb g L ∧ W.heap[nb]? = some (.cells #[.int .i64 (k : Int)] 3)
def LkX (_ : Code) (_ : Nat) (_ : Nat → Prop) (_ : World) : Prop := False
theorem LkI.push (h : LkI w0 w n0 wb g L) {a : Option Addr} {c : Nat} (hb : w.heap[wb]? = some (.cells #[.slice a L.length c] 93)) (ho : w.ownsRow n0 36 2 (.slice a L.length c) L.length (pairCs L))
    (hf : Fr (fun b => (Value.slice a L.length c).ownBlock = some b) w w1) {a1 : Option Addr} {c1 : Nat} {L' : List (Int × Int)} (ho1 : w1.ownsRow n0 36 2 (.slice a1 L'.length c1) L'.length (pairCs L')) :
    LkI w0 (w1.setCell ⟨wb, 0, none⟩ (.slice a1 L'.length c1)) n0 wb g L' := by
  have hwb := h.wbe
  have e0 := own_other ho h.res (by decide)
  have e1 := own_other ho h.bt (by decide)
  have e2 := own_other ho hb (by decide)
  have r0 := hf.at_ h.res (fun e => e0 _ e rfl)
  have r1 := hf.at_ h.bt (fun e => e1 _ e rfl)
  have r2 := hf.at_ hb (fun e => e2 _ e rfl)
  have hF : Fr (fun b => b = wb) w1 (w1.setCell ⟨wb, 0, none⟩ (.slice a1 L'.length c1)) := (Fr.refl (fun b => b = wb) w1).setCell (p := ⟨wb, 0, none⟩) (fun _ => rfl) _
  refine ⟨hF.at_ r0 (by omega), hF.at_ r1 (by omega), ⟨a1, c1, obj_set r2 0 _, hF.row ho1 (fun b hb e => own_other ho1 r2 (by decide) b hb e)⟩, (h.fr.trans' hf (fun b _ e => (ho.lt b e).1)).trans' hF (fun b _ e => by omega), hwb⟩
end
set_option maxRecDepth 100000 in
set_option maxHeartbeats 8000000 in
theorem wLooks (w : World) (g gx : Nat) (TS TX : Nat → Prop) (A : Tbl) (h : TA w g TS A) (hx : RT w gx TX A) (hG : Good A) :
    Calls Try.prog 22 #[.pointer (some ⟨g, 0, none⟩), .pointer (some ⟨gx, 0, none⟩)] w fun e w' => e = .returned (.bool true) ∧ Below w.heap.size w w' := by
  obtain ⟨n0, hn0⟩ : ∃ n0, w.heap.size = n0 := ⟨_, rfl⟩
  have HS := Lib.hid hn0
  have HTA : Hid (∀ w', Fr (fun b => n0 ≤ b) w w' → TA w' g TS A) := Lib.hid (fun w' hf => h.fr hf (fun b hb e => by have := h.lt b hb; omega))
  have HTX : Hid (∀ w', Fr (fun b => n0 ≤ b) w w' → RT w' gx TX A) := Lib.hid (fun w' hf => hx.fr hf (fun b hb e => by have := hx.lt b hb; omega))
  have HG := Lib.hid hG
  have HGX : Hid (gx < n0) := Lib.hid (by have := hx.lt gx hx.own; omega)
  have HTL : Hid (∀ b, TX b → b < n0) := Lib.hid (fun b hb => by have := hx.lt b hb; omega)
  have hnil := fun (w : World) (f : Fn) (x y : Array Value) => run_eql_func_nil (P := Try.prog) w 44 _ _ _ f x y Try.underlying44
  clear h hx hG
  refine (callsIn_wide (n := 0)).1 ?_
  refine callsIn_of_wp_marks Try.func22 rfl trivial ?_ rfl
  simp only [Try.ntmps22, List.size_toArray, List.length_cons, List.length_nil, Nat.reduceAdd, Nat.reduceSub, Array.replicate_succ, Array.replicate_zero, List.push_toArray, List.append_toArray, List.nil_append, List.cons_append]
  refine wpIn_wide.2 ?_
  go_wp2_with (go_at_call 16; refine (iOpen _ _).mono ?_; rintro e w1 ⟨rfl, rfl⟩)
  have hL0 : LkI w (((w.alloc (.cells #[.bool false] 4)).alloc (.cells #[.pointer (some ⟨g, 0, none⟩)] 23)).alloc (.cells #[.slice none 0 0] 93)) n0 (n0 + 1 + 1) g [] := by
    refine ⟨heap_keep (heap_keep (heap_at hn0.symm _) _) _, heap_keep (heap_at (by simp; omega) _) _, ⟨none, 0, heap_at (by simp; omega) _, World.ownsRow_nil _ _ _ _⟩, (((Fr.refl _ w).alloc _).alloc _).alloc _, by omega⟩
  obtain ⟨W0, hW0⟩ : ∃ W0, (((w.alloc (.cells #[.bool false] 4)).alloc (.cells #[.pointer (some ⟨g, 0, none⟩)] 23)).alloc (.cells #[.slice none 0 0] 93)) = W0 := ⟨_, rfl⟩
  rw [hW0] at hL0 ⊢
  obtain ⟨wb, hwb⟩ : ∃ wb, n0 + 1 + 1 = wb := ⟨_, rfl⟩
  rw [hwb] at hL0 ⊢
  have HL0 := Lib.hid hL0
  clear hW0 hL0 hwb
  clear hnil
  have hkz : Hid (wantP (preL A 0) = []) := Lib.hid (by rw [preL_zero HG.out.tok.keys]; rfl)
  go_loopw [7] (fun c wr => ∃ k : Nat, k ≤ 64 ∧ c = .int .i64 k ∧ LkI w wr n0 wb g (wantP (preL A k))) (fun c _ => 64 - (intOf c).toNat)
  case atStart => exact ⟨0, Nat.zero_le _, rfl, by rw [show ((0 : Nat) : Int) = 0 from rfl, hkz.out]; exact HL0.out⟩
  case round =>
    obtain ⟨k, hk, rfl, hI⟩ := hrel
    have HI := Lib.hid hI
    clear hI hkz HL0
    by_cases hlt : k < 64
    · have hX := HTX.out wr HI.out.fr
      obtain ⟨mk, a, cap, -, -, c3, c4, -⟩ := hX.at_ k hlt
      have hokk : okI (k : Int) := by unfold okI; omega
      have hMA : Hid (∀ W, Fr (fun b => n0 ≤ b) w W → Calls Try.prog 15 #[.pointer (some ⟨g, 0, none⟩), .int .i64 k] W fun e w' => e = .returned (.int .i64 (cli A k).1) ∧ Fr (fun _ => False) W w') := Lib.hid (fun W hf => by
        have := xMark W g TS A k (HTA.out W hf) hokk
        unfold markM at this
        rw [if_pos (by unfold isCl; simp; omega)] at this
        exact this)
      have hLA : Hid (∀ W, Fr (fun b => n0 ≤ b) w W → Calls Try.prog 14 #[.pointer (some ⟨g, 0, none⟩), .int .i64 k] W fun e w' => e = .returned (.int .i64 ((cli A k).2.length : Int)) ∧ W = w') := Lib.hid (fun W hf => by
        have := xLen W g TS A k (HTA.out W hf) hokk
        rw [lenM_cli] at this
        exact this)
      have hMX : Hid (∀ W, Fr (fun b => n0 ≤ b) w W → Calls Try.prog 40 #[.pointer (some ⟨gx, 0, none⟩), .int .i64 k] W fun e w' => e = .returned (.int .i64 (cli A k).1) ∧ W = w') := Lib.hid (fun W hf => rMark W gx TX A k (HTX.out W hf) hlt)
      have hnx := Lib.hid (wantP_next HG.out.rise (fun p hp => (HG.out.all p hp).pres) k)
      obtain ⟨CL, hCL⟩ : ∃ CL, cli A k = CL := ⟨_, rfl⟩
      rw [hCL] at hMA hLA hMX hnx c3 c4
      have hlen8 : CL.2.length ≤ 128 := by rw [← hCL]; exact cli_len HG.out.tok.lens k
      obtain ⟨M, R⟩ := CL
      dsimp only at hMA hLA hMX hnx c3 c4 hlen8
      obtain ⟨N, hN⟩ : ∃ N, R.length = N := ⟨_, rfl⟩
      rw [hN] at hLA c3 c4 hlen8
      have HC4 := Lib.hid c4
      have HN := Lib.hid hN; have HCL := Lib.hid hCL
      have hlen8I : (N : Int) ≤ 128 := by omega
      have HD := Lib.hid ((Fr.refl (fun _ => False) wr).drew)
      have c3' : wr.drew.cell? ⟨gx, 64 + k, none⟩ = some (.slice a N cap) := c3
      clear hX c4 hN hCL hokk
      go_wp2_with fail
      go_region_held3 (fun w' => w'.cell? ⟨gx, 64 + k, none⟩ = some (.slice a N cap)) (first | exact c3' | exact c3)
        (first
          | (go_at_call 15; refine (hMA.out _ (HI.out.fr.trans' HD.out (fun _ _ e => e.elim))).mono ?_; rintro e w5 ⟨rfl, hf5⟩; have c3' := hf5.cell c3' (fun h => h); have HD := Lib.hid (HD.out.trans hf5); clear hf5)
          | (go_at_call 40; refine (hMX.out _ (HI.out.fr.trans' HD.out (fun _ _ e => e.elim))).mono ?_; rintro e w6 ⟨rfl, rfl⟩)
          | (go_at_call 14; refine (hLA.out _ (HI.out.fr.trans' HD.out (fun _ _ e => e.elim))).mono ?_; rintro e w7 ⟨rfl, rfl⟩))
      all_goals
        have hI5 := HI.out.keep HD.out
        have hO5 := HD.out.row HC4.out (fun _ _ h => h)
        have HI5 := Lib.hid hI5; have HO5 := Lib.hid hO5
        clear hI5 hO5 HI HC4 c3 c3' HD
        go_wp2_with fail
        go_loopw [8] (fun i wr => ∃ j : Nat, j ≤ N ∧ i = .int .i64 j ∧ LkI w wr n0 wb g (wantP (preL A k) ++ wantR k (R.take j))) (fun i _ => N - (intOf i).toNat)
        case atStart => exact ⟨0, Nat.zero_le _, rfl, by simpa [wantR] using HI5.out⟩
        case round =>
          obtain ⟨j, hj, rfl, hIj⟩ := hrel
          have HIj := Lib.hid hIj
          clear hIj HI5 HO5
          have hX := HTX.out wr HIj.out.fr
          obtain ⟨mk, a, cap, -, -, c3, c4, c5⟩ := hX.at_ k hlt
          rw [HCL.out] at c3 c4
          dsimp only at c3 c4
          rw [HN.out] at c3 c4
          clear hX
          by_cases hjl : j < N
          · have hjI : (j : Int) < N := by omega
            obtain ⟨q, hq⟩ : ∃ q, R[j]? = some q := ⟨R[j]'(by rw [HN.out]; exact hjl), List.getElem?_eq_getElem _⟩
            obtain ⟨gp, rfl, hcap, hcells⟩ := row_cells c4 (by omega)
            have hgp : Hid (gp < n0) := Lib.hid (HTL.out gp (c5 gp rfl))
            have d0 := hcells j _ hq 0 _ rfl
            have d2 := hcells j _ hq 2 _ rfl
            rw [Nat.add_zero] at d0
            have hyes := Lib.hid (fun hd => wantR_yes (c := (k : Int)) hq hd)
            have hno := Lib.hid (fun hd => wantR_no (c := (k : Int)) hq hd)
            obtain ⟨num, ⟨mx, dn, an⟩⟩ := q
            dsimp only at d0 d2 hyes hno
            clear hcells hq c4 c5
            cases dn with
            | true =>
              go_wp2_with fail
              go_roundw
              case rel => exact ⟨j + 1, by omega, by go_num, by rw [hno.out rfl]; exact HIj.out⟩
              case measure => simp [intOf]; omega
            | false =>
              obtain ⟨L, hL⟩ : ∃ L, wantP (preL A k) ++ wantR k (R.take j) = L := ⟨_, rfl⟩
              have hL' : Hid (wantP (preL A k) ++ wantR k (R.take (j + 1)) = L ++ [((k : Int), num)]) := Lib.hid (by rw [hyes.out rfl, ← List.append_assoc, hL])
              have hLl : L.length ≤ 16384 := by
                have h1 := wantP_len (A := preL A k) (fun p hp => HG.out.tok.lens p (List.mem_filter.1 hp).1)
                have h2 := List.length_filter_le (fun p : Int × (Int × Rows) => decide (p.1 < (k : Int))) A
                have h3 := HG.out.len
                have h4 := wantR_len (k : Int) (R.take j)
                rw [List.length_take, HN.out] at h4
                have h5 : (preL A k).length ≤ 64 := Nat.le_trans h2 h3
                rw [← hL, List.length_append]
                have h6 : (preL A k).length ≤ k := by
                  have hr : (preL A k).Pairwise (fun p q => p.1 < q.1) := rise_filter _ HG.out.rise
                  have h7 : ((preL A k).map (·.1)).Pairwise (fun x y : Int => x < y) := by rw [List.pairwise_map]; exact hr
                  have := rise_len (lo := 0) (hi := (k : Int)) h7 (fun x hx => by
                    obtain ⟨p, hp, rfl⟩ := List.mem_map.1 hx
                    obtain ⟨hp1, hp2⟩ := List.mem_filter.1 hp
                    have := (HG.out.all p hp1).key
                    simp at hp2; omega) (by omega)
                  simp at this; omega
                omega
              rw [hL] at HIj
              obtain ⟨ba, bc, q1, q2⟩ := HIj.out.box
              have HQ1 := Lib.hid q1; have HQ2 := Lib.hid q2
              have hn2 := HIj.out.wbe
              obtain ⟨ln, hln⟩ : ∃ ln, L.length = ln := ⟨_, rfl⟩
              have HLN := Lib.hid hln
              rw [hln] at hLl q1 q2
              have e2 := own_other q2 q1 (by decide)
              have e3 := cell_obj q1 0 (.slice ba ln bc) rfl
              have e3f := obj_frozen q1 0
              have HE2 := Lib.hid e2; have HOW := Lib.hid q2; have HBX := Lib.hid q1
              have HOF : Hid (∀ w', Fr (fun _ => False) wr w' → w'.ownsRow n0 36 2 (.slice ba ln bc) ln (pairCs L)) := Lib.hid (fun w' hf => hf.row HOW.out (fun _ _ h => h))
              have hone : Hid (∀ u ∈ ([.int .i64 k, .int .i64 num] : List Value), u.oneCell' = true) := Lib.hid (by intro u hu; simp only [List.mem_cons, List.not_mem_nil, or_false] at hu; rcases hu with rfl | rfl <;> rfl)
              have hs0 : n0 ≤ wr.heap.size := by have := (Array.getElem?_eq_some_iff.1 q1).1; omega
              obtain ⟨iP, hiP, hp0, hp1, hp2⟩ := info_parts infoPair
              have al3 : (wr.alloc (.cells #[.int .i64 k, .int .i64 num] 36)).cell? ⟨wb, 0, none⟩ = some (.slice ba ln bc) := ((Fr.refl (fun _ => False) wr).alloc _).cell e3 (fun h => h)
              have al3d : (wr.alloc (.cells #[.int .i64 k, .int .i64 num] 36)).drew.cell? ⟨wb, 0, none⟩ = some (.slice ba ln bc) := al3
              have e3d : wr.drew.cell? ⟨wb, 0, none⟩ = some (.slice ba ln bc) := e3
              have c3d : wr.drew.cell? ⟨gx, 64 + k, none⟩ = some (.slice (some ⟨gp, 0, none⟩) N cap) := c3
              have d0d : wr.drew.cell? ⟨gp, j * 7, none⟩ = some (.int .i64 num) := d0
              have hkI : (k : Int) < 64 := by omega
              have hk0 : (0 : Int) ≤ k := by omega
              clear q1 q2 e2 hL hln hyes hno HN hn2
              go_wp2_with fail
              refine wp_region_noPanic ?_
              go_region_law
                ((refine step_append_src rfl (.tmp 62) (.tmp 75) 93 rfl n0 36 iP _ 16 Try.underlying93 hiP hp0 hp1 hp2 rfl (by decide) (.slice ba ln bc) ln (pairCs L) (by rfl) (by first | exact HOF.out _ ((Fr.refl _ _).alloc _).drew | exact HOF.out _ (((Fr.refl _ _).drew).alloc _) | exact HOF.out _ ((Fr.refl _ _).alloc _)) 1 (by rfl) (rd_obj (cs := [.int .i64 k, .int .i64 num]) (heap_new _ _) rfl) hone.out (by unfold maxLen; omega) (by omega) (by simp; omega) ?_; intro v1 w1 hown1 hgrow1 hloc1; have hF1 : Fr (fun b => (Value.slice ba ln bc).ownBlock = some b) wr w1 := Fr.trans (by first | exact ((Fr.refl _ wr).alloc _).drew | exact ((Fr.refl _ wr).drew).alloc _ | exact (Fr.refl _ wr).alloc _) (Fr.grown hgrow1 (fun r hr _ => hr)); obtain ⟨a1, c1, rfl⟩ := row_sl hown1; have s1 := hF1.cell e3 (fun e => HE2.out _ e rfl); have s0 := s1; have hFK := Lib.hid hF1; have s2 := obj_frozen (hF1.at_ HBX.out (fun e => HE2.out _ e rfl)) 0; have HF1 := Lib.hid hF1; have HO1 := Lib.hid hown1; clear hF1 hown1 hgrow1 hloc1))
              all_goals
                refine NoPanic.normal ?_
                go_wp2_with fail
                go_roundw
                case rel =>
                  have hl1 : (L ++ [((k : Int), num)]).length = ln + 1 := by simp [HLN.out]
                  refine ⟨j + 1, by omega, by go_num, ?_⟩
                  rw [hL'.out]
                  have hp := HIj.out.push (L' := L ++ [((k : Int), num)]) (a1 := a1) (c1 := c1) HQ1.out HQ2.out (by rw [HLN.out]; exact HF1.out) (by rw [hl1, pairCs_app]; exact HO1.out)
                  rw [hl1] at hp
                  exact hp
                case measure => simp [intOf]; omega
          · obtain rfl : j = N := by omega
            clear c5
            go_wp2_with fail
            go_roundw
            case rel =>
              refine ⟨k + 1, by omega, by go_num, ?_⟩
              rw [show ((k + 1 : Nat) : Int) = (k : Int) + 1 by omega, hnx.out]
              have := HIj.out
              rwa [List.take_of_length_le (by rw [HN.out]; omega)] at this
            case measure => simp [intOf]; omega
    · obtain rfl : k = 64 := by omega
      rw [show ((64 : Nat) : Int) = 64 from rfl, preL_all HG.out.tok.keys] at HI
      have hLl : Hid ((wantP A).length ≤ 8192) := Lib.hid (by have h1 := wantP_len HG.out.tok.lens; have := HG.out.len; omega)
      go_wp2_with fail
      have hI1 := HI.out.keep ((Fr.refl (fun _ => False) wr).alloc (.cells #[.int .i64 0] 3))
      have hn1 := heap_new wr (.cells #[.int .i64 0] 3)
      have hs1 : n0 ≤ wr.heap.size := by have := HI.out.fr.size; omega
      have hs2 : (wr.alloc (.cells #[.int .i64 0] 3)).heap.size = wr.heap.size + 1 := by simp
      obtain ⟨nb, hnb⟩ : ∃ nb, wr.heap.size = nb := ⟨_, rfl⟩
      obtain ⟨W1, hW1⟩ : ∃ W1, wr.alloc (.cells #[.int .i64 0] 3) = W1 := ⟨_, rfl⟩
      rw [hW1] at hI1 hn1 hs2 ⊢
      rw [hnb] at hn1 hs1 hs2 ⊢
      have hT := HTA.out W1 hI1.fr
      obtain ⟨⟨m, l, hT1, hT2, hT3, hT4⟩, hT5, hT6, hT7, hT8⟩ := HTA.out w (Fr.refl _ _)
      have hgl := hT6 g hT5
      have hml := hT6 m hT3
      have hTW : Tab W1 g m l := hT1.fr hI1.fr (by omega) (by omega) (fun p hp e => by have := hT6 _ (hT4 p hp); omega)
      have hop : opens l = wantP A := by rw [← hT2]; exact opens_want (mp_nd hT1.map) (fun p hp => mp_nd (hT1.rows p hp))
      have h64 : l.length ≤ 64 := by have := HG.out.len; rw [← hT2] at this; simpa [absl] using this
      have h128 : ∀ p ∈ l, p.2.rows.length ≤ 128 := fun p hp => hT8 _ (by rw [← hT2]; exact List.mem_map.2 ⟨p, hp, rfl⟩)
      have hIt := iOpen1 (fun b => b = nb) W1 (n0 + 1) g m l hI1.bt hTW h64 h128 (by have := (Array.getElem?_eq_some_iff.1 HI.out.bt).1; omega) (by omega) (by omega) (fun p hp => by have := hT6 _ (hT4 p hp); omega)
      rw [hop] at hIt
      have HIt := Lib.hid hIt; have HI1 := Lib.hid hI1; have HN1 := Lib.hid hn1; have HS1 := Lib.hid hs1; have HS2 := Lib.hid hs2
      have HWS : Hid (w.heap.size ≤ W1.heap.size) := Lib.hid hI1.fr.size
      clear hT hT1 hT2 hT3 hT4 hT5 hT6 hT7 hT8 hgl hml hTW hop h64 h128 hIt hI1 hn1 hW1 hnb hs1 hs2 HI
      refine (wpIn_wide (n := 0)).1 ?_
      refine rangeX (w0 := W1) (X := wantP A) (S := fun b => b = nb) rfl (enters_of Try.func31 (by kernel_rfl) rfl) HIt.out (Below.refl _ _) (fun b hb => by have := HS2.out; omega) (fun _ => rfl)
        (LkJ w n0 wb g nb (wantP A)) LkX
        (fun k C W W' hs hf => ⟨hs.1.fa hf HWS.out, Fa.cells hf hs.2⟩) (fun c k C W W' hs hf => hs) ⟨HI1.out, HN1.out⟩ ?round ?done ?stop
      have hfn : ∀ f, Fence.wide.fn f := fun _ => trivial
      have hdp : Fence.wide.depth.isSome = false := rfl
      case round =>
        rintro lp k x C W hx hlp hi hr
        dsimp only [encP]
        gi_wp2
        refine Took.mk (Fr.refl _ _) hi ?_
        rintro Wb ⟨hbI, hbn⟩ hrb hf hsz hsw hCC _
        obtain ⟨ba, bc, q1, q2⟩ := hbI.box
        have hkl : k < (wantP A).length := (List.getElem?_eq_some_iff.1 hx).1
        obtain ⟨gp, rfl, hcap, hcells⟩ := pair_cells q2 (by omega)
        have d0 := hcells k _ hx 0 _ rfl
        have d1 := hcells k _ hx 1 _ rfl
        rw [Nat.add_zero] at d0
        obtain ⟨ln, hln⟩ : ∃ ln, (wantP A).length = ln := ⟨_, rfl⟩
        rw [hln] at q1 hkl hcap hLl
        have hkI : (k : Int) < ln := by omega
        have hlI : (ln : Int) ≤ 8192 := by have := hLl.out; omega
        have e0 := cell_obj q1 0 (.slice (some ⟨gp, 0, none⟩) ln bc) rfl
        have e1 := cell_obj hbn 0 (.int .i64 k) rfl
        have f1 := obj_frozen hbn 0
        obtain ⟨x1, x2⟩ := x
        have hpe : (Op.equalIn 10000 36 (.agg #[.int .i64 x1, .int .i64 x2]) (.agg #[.int .i64 x1, .int .i64 x2])).run Try.prog Wb = .ok true Wb := pairEqD Wb 9998 x1 x2
        dsimp only at d0 d1 ⊢
        have HB := Lib.hid hbI; have HBN := Lib.hid hbn
        clear hi hr hf q1 q2 hcells hx hbI hbn hrb
        gi_wp2
        refine ⟨(Fr.refl _ _).setCell (p := ⟨nb, 0, none⟩) (fun _ => .inl rfl) _, HB.out.n HBN.out _ HS1.out, ?_⟩
        have := obj_set HBN.out 0 (.int .i64 ((k : Int) + 1))
        simpa using this
      case stop => intro D c k C W hD hk hX; exact hX.elim
      case done =>
        rintro D C W hD ⟨hbI, hbn⟩ hr hK
        obtain ⟨ba, bc, q1, q2⟩ := hbI.box
        obtain ⟨ln, hln⟩ : ∃ ln, (wantP A).length = ln := ⟨_, rfl⟩
        rw [hln] at q1 hbn
        have e0 := cell_obj q1 0 (.slice ba ln bc) rfl
        have e1 := cell_obj hbn 0 (.int .i64 ln) rfl
        have r0 := cell_obj hbI.res 0 (.bool false) rfl
        have f0 := obj_frozen hbI.res 0
        have HFc := Lib.hid hbI.fr.drew; have HR := Lib.hid hbI.res; have HKD := Lib.hid hK
        have HD0 : Hid (n0 ≤ D) := Lib.hid (by have := HS1.out; have := HS2.out; omega)
        have hDn : Hid (D ≠ n0) := Lib.hid (by have := HS1.out; have := HS2.out; omega)
        have hyt : Byt (tabC A).flatten := tabC_byt HG.out
        obtain ⟨FB, hFB⟩ : ∃ FB, (tabC A).flatten = FB := ⟨_, rfl⟩
        have hXP : Hid (∀ W, Fr (fun b => n0 ≤ b) w W → Calls Try.prog 17 #[.pointer (some ⟨g, 0, none⟩)] W fun e w' => Below W.heap.size W w' ∧ ∃ v, e = .returned v ∧ Bn W.heap.size w' v FB) := Lib.hid (fun W hf => by rw [← hFB]; exact xPack W g TS A (HTA.out W hf) HG.out)
        have hYP : Hid (∀ W, Fr (fun b => n0 ≤ b) w W → Calls Try.prog 46 #[.pointer (some ⟨gx, 0, none⟩)] W fun e w' => Below W.heap.size W w' ∧ ∃ v, e = .returned v ∧ Bn W.heap.size w' v FB) := Lib.hid (fun W hf => by rw [← hFB]; exact yPack W gx TX A (HTX.out W hf) HG.out)
        clear hbI hbn hr hK q1 q2 hln hyt hFB hlt hk HIt HI1 HN1
        go_wp2_with fail
        refine wp_region_noPanic ?_
        go_region_with (first
          | (go_at_call 17; refine (hXP.out _ HFc.out).mono ?_; rintro e wA ⟨hbA, vA, rfl, hBA⟩; have hstA := hBA.1.string; have HBA := Lib.hid hBA.1; have hFb := Fr.below (S := fun _ => False) hbA; have HFc := Lib.hid (HFc.out.trans' hFb (fun _ _ h => h.elim)); have HR := Lib.hid (hFb.at_ HR.out (fun h => h)); have HKD := Lib.hid (hFb.at_ HKD.out (fun h => h)); have r0 := cell_obj HR.out 0 (.bool false) rfl; have f0 := obj_frozen HR.out 0; clear hBA hbA hFb)
          | (go_at_call 46; refine (hYP.out _ HFc.out).mono ?_; rintro e wB ⟨hbB, vB, rfl, hBB⟩; have hstB := hBB.1.string; have hstA := (HBA.out.fr (Fr.below (S := fun _ => False) hbB) (fun _ h => h.elim)).string; have hFb := Fr.below (S := fun _ => False) hbB; have HFc := Lib.hid (HFc.out.trans' hFb (fun _ _ h => h.elim)); have HR := Lib.hid (hFb.at_ HR.out (fun h => h)); have HKD := Lib.hid (hFb.at_ HKD.out (fun h => h)); have r0 := cell_obj HR.out 0 (.bool false) rfl; have f0 := obj_frozen HR.out 0; clear hBB hbB hFb))
        all_goals
          refine NoPanic.normal ?_
          have hR5 := obj_set HR.out 0 (.bool true)
          have hK5 := ((Fr.refl (fun b => b = n0) _).setCell (p := ⟨n0, 0, none⟩) (fun _ => rfl) (.bool true)).at_ HKD.out hDn.out
          have hF5 := HFc.out.trans ((Fr.refl (fun b => n0 ≤ b) _).setCell (p := ⟨n0, 0, none⟩) (fun _ => Nat.le_refl _) (.bool true))
          have hc5 := cell_obj (Fa.cells (frPut (B := n0) (.deferred none) HD0.out hK5 rfl) hR5) 0 (.bool true) rfl
          have HF5 := Lib.hid hF5; have HK5 := Lib.hid hK5; have HC5 := Lib.hid hc5
          clear hR5 hK5 hF5 hc5 r0 f0
          go_wp2_with fail
          refine ⟨by simp, .inl ⟨_, _, rfl, run_takeDeferred HK5.out, ?_⟩⟩
          refine ⟨.bool true, by simp [results, Try.results22, go_sem, HC5.out], rfl, ?_⟩
          exact (HF5.out.putObj (l := D) (fun _ => HD0.out) _).toBelow (fun b hb => by have := HS.out; omega) (Nat.le_refl _)
end Go.Proofs.Ytakjiicnbocjeaa
