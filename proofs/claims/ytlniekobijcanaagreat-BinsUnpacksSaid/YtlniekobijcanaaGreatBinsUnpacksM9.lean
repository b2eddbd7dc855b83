/- bins: Way. -/
import Derived.Test.YtlniekobijcanaaGreatBinsUnpacksM8
import Derived.Test.YtlniekobijcanaaGreatBinsUnpacksM7
import Derived.Test.YtlniekobijcanaaGreatBinsUnpacksM3
namespace Go.Proofs.YtlniekobijcanaaGreat
open Go.RowKit Go.Maps
def apartI (a b : Int) : Int := if a < b then b - a else a - b
theorem apartI_in {a b : Int} (ha : 0 ≤ a ∧ a ≤ 4096) (hb : 0 ≤ b ∧ b ≤ 4096) : 0 ≤ apartI a b ∧ apartI a b ≤ 4096 := by unfold apartI; split <;> omega
theorem kApart (w : World) (a b : Int) (ha : 0 ≤ a ∧ a ≤ 4096) (hb : 0 ≤ b ∧ b ≤ 4096) : Calls Tryz.prog 44 #[.int .i64 a, .int .i64 b] w fun e w' => e = .returned (.int .i64 (apartI a b)) ∧ w = w' := by
  have hr : max a b - min a b = apartI a b := by unfold apartI; split <;> omega
  have HR := Lib.hid hr
  clear hr
  go_enter Tryz.func44, Tryz.ntmps44
  go_wp2_with fail
  go_ret
  exact ⟨by rw [HR.out]; rfl, rfl⟩
theorem Pl.keep {S : Nat → Prop} {w w' : World} {v : Value} {L : List PV} (h : Pl w v L) (hf : Fr S w w') (hS : ∀ b, v.ownBlock = some b → ¬ S b) : Pl w' v L := by
  obtain ⟨h0, a, cap, rfl, h1⟩ := h
  refine ⟨h0, a, cap, rfl, fun i r hr => ?_⟩
  obtain ⟨ho, ad, rfl, hc⟩ := h1 i r hr
  exact ⟨ho, ad, rfl, fun j u hu => hf.cell (hc j u hu) (by have := hS ad.block rfl; unfold Addr.add; first | exact this | (split <;> exact this))⟩
/-- One step of the way: how far, at which bin, in which zone. -/
def wayS (b : BE) (s : Int × Int × Int) : Int × Int × Int := (s.1 + (100 * apartI b.zo s.2.2 + apartI b.nu s.2.1), b.nu, b.zo)
def wayG (L : List BE) (R : List PV) : Int × Int × Int := R.foldl (fun s p => match binE L p.b with | some b => wayS b s | none => s) (0, 0, 0)
def wayE (L : List BE) (l : List PV) : Int := (wayG L (routeE L l)).1
theorem wayG_take {L : List BE} {R : List PV} {k : Nat} {p : PV} {b : BE} (h : R[k]? = some p) (hb : binE L p.b = some b) : wayG L (R.take (k + 1)) = wayS b (wayG L (R.take k)) := by
  unfold wayG
  rw [List.take_add_one, h, List.foldl_append]
  simp only [Option.toList, List.foldl_cons, List.foldl_nil, hb]
theorem binE_mem {L : List BE} {n : Int} {b : BE} (h : binE L n = some b) : b ∈ L := List.mem_of_find?_eq_some h
theorem wayG_in {L : List BE} (hL : ∀ b ∈ L, BEok b) : ∀ (R : List PV), (∃ N : Nat, N = R.length ∧ 0 ≤ (wayG L R).1 ∧ (wayG L R).1 ≤ 10000 * (N : Int)) ∧ (0 ≤ (wayG L R).2.1 ∧ (wayG L R).2.1 ≤ 4096) ∧ (0 ≤ (wayG L R).2.2 ∧ (wayG L R).2.2 ≤ 15) := by
  intro R
  suffices h : ∀ (R : List PV) (s : Int × Int × Int) (N : Nat), (0 ≤ s.1 ∧ s.1 ≤ 10000 * (N : Int)) → (0 ≤ s.2.1 ∧ s.2.1 ≤ 4096) → (0 ≤ s.2.2 ∧ s.2.2 ≤ 15) →
      (∃ M : Nat, M = N + R.length ∧ 0 ≤ (R.foldl (fun s p => match binE L p.b with | some b => wayS b s | none => s) s).1 ∧ (R.foldl (fun s p => match binE L p.b with | some b => wayS b s | none => s) s).1 ≤ 10000 * (M : Int)) ∧ (0 ≤ (R.foldl (fun s p => match binE L p.b with | some b => wayS b s | none => s) s).2.1 ∧ (R.foldl (fun s p => match binE L p.b with | some b => wayS b s | none => s) s).2.1 ≤ 4096) ∧ (0 ≤ (R.foldl (fun s p => match binE L p.b with | some b => wayS b s | none => s) s).2.2 ∧ (R.foldl (fun s p => match binE L p.b with | some b => wayS b s | none => s) s).2.2 ≤ 15) by
    have := h R (0, 0, 0) 0 (by simp) (by simp) (by simp)
    rw [Nat.zero_add] at this
    exact this
  intro R
  induction R with
  | nil => intro s N h1 h2 h3; exact ⟨⟨N, rfl, h1⟩, h2, h3⟩
  | cons p r ih =>
    intro s N h1 h2 h3
    rw [List.foldl_cons]
    cases hb : binE L p.b with
    | none =>
      dsimp only
      obtain ⟨⟨M, hM, k1, k2⟩, k3⟩ := ih s N h1 h2 h3
      exact ⟨⟨M + 1, by rw [List.length_cons]; omega, k1, by omega⟩, k3⟩
    | some b =>
      dsimp only
      have hbo := hL b (binE_mem hb)
      have a1 := apartI_in (a := b.zo) (b := s.2.2) (by have := hbo.zo; omega) (by omega)
      have a2 := apartI_in (a := b.nu) (b := s.2.1) (by have := hbo.nu; omega) (by omega)
      have a3 : apartI b.zo s.2.2 ≤ 15 := by have := hbo.zo; unfold apartI; split <;> omega
      obtain ⟨⟨M, hM, k⟩, k3⟩ := ih (wayS b s) (N + 1) (by unfold wayS; dsimp only; omega) (by have := hbo.nu; unfold wayS; dsimp only; omega) (by have := hbo.zo; unfold wayS; dsimp only; omega)
      exact ⟨⟨M, by rw [List.length_cons]; omega, k⟩, k3⟩
set_option maxRecDepth 100000 in
set_option maxHeartbeats 8000000 in
theorem bWay (w : World) (g : Nat) (v : Value) (L : List BV) (l : List PV) (hF : Fl w g L) (hL : 0 < L.length) (hok : ∀ x ∈ L.map BV.e, BEok x) (h : Pl w v l) (hl : l.length ≤ 100000000) :
    Calls Tryz.prog 16 #[.pointer (some ⟨g, 0, none⟩), v] w fun e w' => e = .returned (.int .i64 (wayE (L.map BV.e) l)) ∧ Fr (fun _ => False) w w' := by
  obtain ⟨n1, hn1⟩ : ∃ n1, w.heap.size = n1 := ⟨_, rfl⟩
  obtain ⟨W0, hW0⟩ : ∃ W0, w.alloc (.cells #[.int .i64 0, .int .i64 0, .int .i64 0] 36) = W0 := ⟨_, rfl⟩
  have hf0 : Fr (fun _ => False) w W0 := by rw [← hW0]; exact (Fr.refl _ w).alloc _
  have hx0 : W0.heap[n1]? = some (.cells #[.int .i64 0, .int .i64 0, .int .i64 0] 36) := by rw [← hW0]; exact heap_at hn1.symm _
  have hs0 : W0.heap.size = n1 + 1 := by rw [← hW0]; simp; omega
  have hrt := Lib.hid (fun W (hf : Fr (fun _ => False) w W) => bRouteF W g v L l (hF.keep hf) hL (h.fr0 okPvKeeps hf) (by omega))
  have HF := Lib.hid hF; have HLL := Lib.hid hL; have HOKL := Lib.hid hok
  have hfd := Lib.hid (fun W n (hf : Fr (fun _ => False) w W) => bFind W g L n (hF.keep hf) hL)
  obtain ⟨va, vl, vc, rfl⟩ : ∃ a n c, v = .slice a n c := by obtain ⟨a, c, e⟩ := h.sl; exact ⟨a, _, c, e⟩
  obtain ⟨R, hR⟩ : ∃ R, routeE (L.map BV.e) l = R := ⟨_, rfl⟩
  have hres : Hid ((wayG (L.map BV.e) R).1 = wayE (L.map BV.e) l) := Lib.hid (by rw [← hR]; rfl)
  have hthere : Hid (∀ p ∈ R, ∃ b, binE (L.map BV.e) p.b = some b) := Lib.hid (fun p hp => by
    rw [← hR] at hp
    exact cR_there ((stab_perm _ _).mem_iff.1 hp))
  have hlen : R.length ≤ 100000000 := by
    rw [← hR]
    unfold routeE
    rw [stab_len]
    exact Nat.le_trans (List.length_filter_le _ _) hl
  obtain ⟨N, hN⟩ : ∃ N, R.length = N := ⟨_, rfl⟩
  have HN := Lib.hid hN
  rw [hN] at hlen
  obtain ⟨RES, hRES⟩ : ∃ r, wayE (L.map BV.e) l = r := ⟨_, rfl⟩
  rw [hRES] at hres ⊢
  rw [hR] at hrt
  have HF0 := Lib.hid hf0; have HX0 := Lib.hid hx0; have HS0 := Lib.hid hs0; have HN1 := Lib.hid hn1
  have c0 := cell_obj hx0 0 (.int .i64 0) rfl; have c1 := cell_obj hx0 1 (.int .i64 0) rfl; have c2 := cell_obj hx0 2 (.int .i64 0) rfl
  have f0 := obj_frozen hx0 0; have f1 := obj_frozen hx0 1; have f2 := obj_frozen hx0 2
  clear hF hL hok h hl hR hRES hN hf0 hx0 hs0
  go_enter Tryz.func16, Tryz.ntmps16
  go_wp2_with fail
  obtain ⟨W1, hW1⟩ : ∃ W1, ((W0.setCell ⟨n1, 0, none⟩ (.int .i64 0)).setCell ⟨n1, 1, none⟩ (.int .i64 0)).setCell ⟨n1, 2, none⟩ (.int .i64 0) = W1 := ⟨_, rfl⟩
  rw [hW1]
  have hf1 : Fr (fun _ => False) w W1 := by
    have hn := HN1.out
    rw [← hW1]
    exact ((HF0.out.setCell (p := ⟨n1, 0, none⟩) (fun e => by have e : n1 < w.heap.size := e; omega) _).setCell (p := ⟨n1, 1, none⟩) (fun e => by have e : n1 < w.heap.size := e; omega) _).setCell (p := ⟨n1, 2, none⟩) (fun e => by have e : n1 < w.heap.size := e; omega) _
  have hx1 : W1.heap[n1]? = some (.cells #[.int .i64 0, .int .i64 0, .int .i64 0] 36) := by
    rw [← hW1, obj_set (obj_set (obj_set HX0.out 0 _) 1 _) 2 _]; rfl
  have hs1 : n1 < W1.heap.size := (Array.getElem?_eq_some_iff.1 hx1).1
  clear c0 c1 c2 f0 f1 f2 hW0 hW1
  refine (hrt.out W1 hf1).mono ?_
  rintro e w2 ⟨v2, rfl, hp2, hlo2, hf2⟩
  have hne : Hid (∀ b, v2.ownBlock = some b → ¬ (fun c => c = n1) b) := Lib.hid (fun b hb e => by have e : b = n1 := e; have := hlo2 b hb; omega)
  obtain ⟨a2, vc2, rfl⟩ := hp2.sl
  have hN := HN.out
  rw [hN] at hp2 hne ⊢
  have hx2 := hf2.at_ hx1 (fun e => e)
  have HP2 := Lib.hid hp2; have HX2 := Lib.hid hx2; have HF2 := Lib.hid (hf1.trans hf2)
  clear hf1 hx1 hs1 hp2 hlo2 hf2 hx2 hN
  go_wp2_with fail
  go_loopw [5, 15] (fun va vi wr => ∃ (k : Nat) (S : Int × Int × Int) (ro : Int), k ≤ N ∧ va = .int .i64 S.1 ∧ vi = .int .i64 k ∧ S = wayG (L.map BV.e) (R.take k) ∧ Fr (fun _ => False) w wr ∧ wr.heap[n1]? = some (.cells #[.int .i64 S.2.1, .int .i64 S.2.2, .int .i64 ro] 36) ∧ Pl wr (.slice a2 N vc2) R) (fun _ vi _ => N - (intOf vi).toNat)
  case atStart => exact ⟨0, (0, 0, 0), 0, Nat.zero_le _, rfl, rfl, rfl, HF2.out, HX2.out, HP2.out⟩
  case round =>
    obtain ⟨k, S, ro, hk, rfl, rfl, hS, hfr, hxr, hpl⟩ := hrel
    have HFR := Lib.hid hfr; have HXR := Lib.hid hxr; have HPL := Lib.hid hpl; have HS := Lib.hid hS
    by_cases hlt : k < N
    · obtain ⟨p, hp⟩ : ∃ p, R[k]? = some p := ⟨R[k]'(by rw [HN.out]; exact hlt), List.getElem?_eq_getElem _⟩
      have hkI : (k : Int) < N := by omega
      obtain ⟨ad, rfl, hok, z0, zs⟩ := hpl.at_ hp
      have x0 := z0 (.int .i64 p.b) rfl
      have x1 := zs 0 (vS p.g) rfl
      have x2 := zs 1 (.int .i64 p.n) rfl
      have HP := Lib.hid hp
      clear hpl z0 zs hok hxr hfr hp hS
      go_wp2_with fail
      obtain ⟨W5, hW5⟩ : ∃ W, wr.alloc (.cells #[.int .i64 p.b, vS p.g, .int .i64 p.n] 55) = W := ⟨_, rfl⟩
      obtain ⟨m0, hm0⟩ : ∃ n, wr.heap.size = n := ⟨_, rfl⟩
      have hFW : Fr (fun _ => False) wr W5 := by rw [← hW5]; exact (Fr.refl _ wr).alloc _
      have hx5 : W5.heap[m0]? = some (.cells #[.int .i64 p.b, vS p.g, .int .i64 p.n] 55) := by rw [← hW5]; exact heap_at hm0.symm _
      rw [hW5, hm0]
      have HFW := Lib.hid (HFR.out.trans hFW)
      have HX5 := Lib.hid (hFW.at_ HXR.out (fun e => e))
      have HPL5 := Lib.hid (HPL.out.fr0 okPvKeeps hFW)
      have v0 := cell_obj hx5 0 (.int .i64 p.b) rfl
      clear x0 x1 x2 hW5 hm0 hx5 hFW
      obtain ⟨jj, X, hjL, hjF, hjB⟩ : ∃ (j : Nat) (X : BV), L[j]? = some X ∧ findF L p.b = (j : Int) ∧ binE (L.map BV.e) p.b = some X.e := by
        obtain ⟨b, hb⟩ := hthere.out p (List.mem_of_getElem? HP.out)
        rcases idxOf_cases (fun b : BV => decide (b.nu = p.b)) L with ⟨-, k2, -⟩ | ⟨i, A, k1, -, k3, k4⟩
        · have k2 : binF L p.b = none := k2
          rw [binE_e, k2] at hb; cases hb
        · exact ⟨i, A, k1, k3, by rw [binE_e]; show (binF L p.b).map BV.e = _; rw [show binF L p.b = some A from k4]; rfl⟩
      have HT := Lib.hid (wayG_take HP.out hjB)
      have HBO := Lib.hid (HOKL.out X.e (List.mem_map.2 ⟨X, List.mem_of_getElem? hjL, rfl⟩))
      have HIN := Lib.hid (wayG_in HOKL.out (R.take k))
      have HJF := Lib.hid hjF
      obtain ⟨fa, fc, q1, q2⟩ := HF.out.keep HFW.out
      have hjN := (List.getElem?_eq_some_iff.1 hjL).1
      obtain ⟨M, hM⟩ : ∃ M, L.length = M := ⟨_, rfl⟩
      have hMI := q2.len
      rw [hM] at q1 q2 hjN hMI
      have hjI : (jj : Int) < M := by omega
      obtain ⟨fd, rfl, okA, y0, ys⟩ := q2.at_ hjL
      have u0 := cell_obj q1 0 (.slice (some fd) M fc) rfl
      have u1 := y0 (.int .i64 X.nu) rfl
      have u2 := ys 0 (.int .i64 X.zo) rfl
      have u3 := ys 1 (.int .i64 X.ro) rfl
      obtain ⟨fj, hfj⟩ : ∃ x, fd.add (jj * 4) = x := ⟨_, rfl⟩
      rw [hfj] at u1 u2 u3
      clear q1 q2 y0 ys okA hjL hjF hjB hM
      refine wp_region_box [⟨11, 9, 36, #[.int .i64 0, .int .i64 0, .int .i64 0], 12, 29⟩] (by kernel_rfl) rfl (by kernel_rfl) (by kernel_rfl) (by kernel_rfl) ?al ?_
      case al =>
        intro b hb w
        simp only [List.mem_cons, List.not_mem_nil, or_false] at hb
        rcases hb with rfl
        kernel_rfl
      apply Exists.intro
      refine ⟨?hh, ?st, ?qq⟩
      case hh =>
        intro X
        have q0 := FrW.cell (X.fr.cell u0 (fun e => e)); have q1 := FrW.cell (X.fr.cell u1 (fun e => e)); have q2 := FrW.cell (X.fr.cell u2 (fun e => e)); have q3 := FrW.cell (X.fr.cell u3 (fun e => e)); have r0 := FrW.cell (X.fr.cell v0 (fun e => e))
        simp (config := { decide := true }) only [boxedF, bxIdx, List.flatMap_cons, List.flatMap_nil, List.cons_append, List.nil_append, idleU, if_true, if_false, ite_true, ite_false]
        repeat (go_big_quiet_step ((go_at_call 39; rename_i Y; refine (hfd.out Y.val _ (HFW.out.trans (X.fr.trans Y.fr))).mono ?_; rw [HJF.out]; rintro e w2 ⟨rfl, hF⟩; exact ⟨rfl, ⟨w2, Y.fr.trans hF⟩, rfl⟩)))
        exact wpQuiet_nil rfl
      case st =>
        intro b hb w n hw
        simp only [List.mem_cons, List.not_mem_nil, or_false] at hb
        rcases hb with rfl
        exact box_store (cs := #[.int .i64 X.nu, .int .i64 X.zo, .int .i64 X.ro]) hw rfl (by kernel_rfl) (by intro u hu; simp only [List.mem_cons, List.not_mem_nil, or_false] at hu; rcases hu with rfl | rfl | rfl <;> rfl)
      case qq =>
        intro m wz hfz hbx hdiff
        have hb9 : wz.heap[m 11]? = some (.cells #[.int .i64 X.nu, .int .i64 X.zo, .int .i64 X.ro] 36) := (hbx _ (List.mem_cons_self)).2
        have hmn : W5.heap.size ≤ m 11 := (hbx _ (List.mem_cons_self)).1
        obtain ⟨b9, hb9e⟩ : ∃ b, m 11 = b := ⟨_, rfl⟩
        rw [hb9e] at hb9 hmn
        have hlt5 : n1 < b9 := Nat.lt_of_lt_of_le (Array.getElem?_eq_some_iff.1 HX5.out).1 hmn
        have HLT5 := Lib.hid hlt5
        have HFZ := Lib.hid (HFW.out.trans hfz)
        have hxz := hfz.at_ HX5.out (fun e => e)
        have HXZ := Lib.hid hxz
        have HB9 := Lib.hid hb9
        have HPLZ := Lib.hid (HPL5.out.fr0 okPvKeeps hfz)
        have y1 := cell_obj hb9 0 (.int .i64 X.nu) rfl
        have y2 := cell_obj hb9 1 (.int .i64 X.zo) rfl
        have y3 := cell_obj hb9 2 (.int .i64 X.ro) rfl
        have z1 := cell_obj hxz 0 (.int .i64 S.2.1) rfl
        have z2 := cell_obj hxz 1 (.int .i64 S.2.2) rfl
        have z3 := cell_obj hxz 2 (.int .i64 ro) rfl
        simp only [bPuts, List.foldl_cons, List.foldl_nil, Act.put, bPtr, hb9e]
        clear hbx hdiff hfz hb9 u0 u1 u2 u3 v0 hxz hlt5 hmn
        simp only [List.setIfInBounds_toArray, List.set_cons_succ, List.set_cons_zero]
        have HS' := HS.out
        rw [← HS'] at HT HIN
        obtain ⟨⟨N', hN', i1, i2⟩, i3, i4⟩ := HIN.out
        have hNN : N' ≤ 100000000 := by rw [hN', List.length_take]; omega
        have b1 := HBO.out.nu; have b2 := HBO.out.zo
        have a1 := apartI_in (a := X.zo) (b := S.2.2) (by show 0 ≤ X.e.zo ∧ X.e.zo ≤ 4096; omega) (by omega)
        have a2 := apartI_in (a := X.nu) (b := S.2.1) (by show 0 ≤ X.e.nu ∧ X.e.nu ≤ 4096; omega) (by omega)
        have hkZ := Lib.hid (fun W => kApart W X.zo S.2.2 (by show 0 ≤ X.e.zo ∧ X.e.zo ≤ 4096; omega) (by omega))
        have hkN := Lib.hid (fun W => kApart W X.nu S.2.1 (by show 0 ≤ X.e.nu ∧ X.e.nu ≤ 4096; omega) (by omega))
        obtain ⟨AZ, hAZ⟩ : ∃ x, apartI X.zo S.2.2 = x := ⟨_, rfl⟩
        obtain ⟨AN, hAN⟩ : ∃ x, apartI X.nu S.2.1 = x := ⟨_, rfl⟩
        have hwS : wayS X.e S = (S.1 + (100 * AZ + AN), X.nu, X.zo) := by unfold wayS; rw [← hAZ, ← hAN]; rfl
        rw [hwS] at HT
        rw [hAZ] at a1 hkZ; rw [hAN] at a2 hkN
        obtain ⟨S1, S2, S3⟩ := S
        dsimp only at *
        clear hAZ hAN hwS HS' hN' b1 b2
        have y1 := FrW.cell y1; have y2 := FrW.cell y2; have z1 := FrW.cell z1; have z2 := FrW.cell z2
        go_wp2_with fail
        refine wp_region_fr (by kernel_rfl) (by kernel_rfl) ?_
        repeat (go_big_quiet_step ((go_at_call 44; rename_i X; (first | (with_reducible refine (hkZ.out X.val).mono ?_) | (with_reducible refine (hkN.out X.val).mono ?_)); rintro e w2 ⟨rfl, rfl⟩; exact ⟨rfl, ⟨_, X.fr⟩, rfl⟩)))
        refine wpQuiet_nil ?_
        rintro V ⟨⟨_, hV⟩, rfl⟩
        have hbV := hV.at_ HB9.out (fun e => e)
        have hxV := hV.at_ HXZ.out (fun e => e)
        have HXV := Lib.hid hxV
        have HFV := Lib.hid (HFZ.out.trans hV)
        have HPLV := Lib.hid (HPLZ.out.fr0 okPvKeeps hV)
        clear y1 y2 y3 z1 z2 z3
        have y1 := cell_obj hbV 0 (.int .i64 X.nu) rfl
        have y2 := cell_obj hbV 1 (.int .i64 X.zo) rfl
        have y3 := cell_obj hbV 2 (.int .i64 X.ro) rfl
        have z1 := cell_obj hxV 0 (.int .i64 S2) rfl
        have z2 := cell_obj hxV 1 (.int .i64 S3) rfl
        have z3 := cell_obj hxV 2 (.int .i64 ro) rfl
        have f0 := obj_frozen hxV 0; have f1 := obj_frozen hxV 1; have f2 := obj_frozen hxV 2
        clear hbV hxV hV
        go_wp2_with fail
        go_roundw
        case rel =>
          have hn := HN1.out
          refine ⟨k + 1, (S1 + (100 * AZ + AN), X.nu, X.zo), X.ro, by omega, rfl, by go_num, HT.out.symm, ?_, ?_, ?_⟩
          · exact ((HFV.out.setCell (p := ⟨n1, 0, none⟩) (fun e => by have e : n1 < w.heap.size := e; omega) _).setCell (p := ⟨n1, 1, none⟩) (fun e => by have e : n1 < w.heap.size := e; omega) _).setCell (p := ⟨n1, 2, none⟩) (fun e => by have e : n1 < w.heap.size := e; omega) _
          · rw [obj_set (obj_set (obj_set HXV.out 0 _) 1 _) 2 _]; rfl
          · exact Pl.keep HPLV.out ((((Fr.refl (fun c => c = n1) V).setCell (p := ⟨n1, 0, none⟩) (fun _ => rfl) _).setCell (p := ⟨n1, 1, none⟩) (fun _ => rfl) _).setCell (p := ⟨n1, 2, none⟩) (fun _ => rfl) _) hne.out
        case measure => simp [intOf]; omega
    · obtain rfl : k = N := by omega
      have hkI : ¬ (k : Int) < k := by omega
      have hr2 : Hid (S.1 = RES) := Lib.hid (by rw [HS.out, List.take_of_length_le (by rw [HN.out]; exact Nat.le_refl _)]; exact hres.out)
      clear hfr hS hxr hpl
      go_wp2_with fail
      go_ret
      exact ⟨by rw [hr2.out]; rfl, HFR.out⟩
set_option maxRecDepth 100000 in
set_option maxHeartbeats 8000000 in
theorem bWayN (w : World) (v : Value) (l : List PV) (h : Pl w v l) (hl : l.length ≤ 4398046510976) (hfd : ∀ W n, Calls Tryz.prog 39 #[.pointer none, .int .i64 n] W fun e w' => e = .returned (.int .i64 (-1)) ∧ Fr (fun _ => False) W w') :
    Calls Tryz.prog 16 #[.pointer none, v] w fun e w' => e = .returned (.int .i64 0) ∧ Fr (fun _ => False) w w' := by
  obtain ⟨n1, hn1⟩ : ∃ n1, w.heap.size = n1 := ⟨_, rfl⟩
  obtain ⟨W0, hW0⟩ : ∃ W0, w.alloc (.cells #[.int .i64 0, .int .i64 0, .int .i64 0] 36) = W0 := ⟨_, rfl⟩
  have hf0 : Fr (fun _ => False) w W0 := by rw [← hW0]; exact (Fr.refl _ w).alloc _
  have hx0 : W0.heap[n1]? = some (.cells #[.int .i64 0, .int .i64 0, .int .i64 0] 36) := by rw [← hW0]; exact heap_at hn1.symm _
  have hrt := Lib.hid (fun W (hf : Fr (fun _ => False) w W) => bRouteN W v l (h.fr0 okPvKeeps hf) hl hfd)
  obtain ⟨va, vl, vc, rfl⟩ : ∃ a n c, v = .slice a n c := by obtain ⟨a, c, e⟩ := h.sl; exact ⟨a, _, c, e⟩
  have HF0 := Lib.hid hf0; have HX0 := Lib.hid hx0; have HN1 := Lib.hid hn1
  have c0 := cell_obj hx0 0 (.int .i64 0) rfl; have c1 := cell_obj hx0 1 (.int .i64 0) rfl; have c2 := cell_obj hx0 2 (.int .i64 0) rfl
  have f0 := obj_frozen hx0 0; have f1 := obj_frozen hx0 1; have f2 := obj_frozen hx0 2
  clear h hl hf0 hx0 hfd
  go_enter Tryz.func16, Tryz.ntmps16
  go_wp2_with fail
  obtain ⟨W1, hW1⟩ : ∃ W1, ((W0.setCell ⟨n1, 0, none⟩ (.int .i64 0)).setCell ⟨n1, 1, none⟩ (.int .i64 0)).setCell ⟨n1, 2, none⟩ (.int .i64 0) = W1 := ⟨_, rfl⟩
  rw [hW1]
  have hf1 : Fr (fun _ => False) w W1 := by
    have hn := HN1.out
    rw [← hW1]
    exact ((HF0.out.setCell (p := ⟨n1, 0, none⟩) (fun e => by have e : n1 < w.heap.size := e; omega) _).setCell (p := ⟨n1, 1, none⟩) (fun e => by have e : n1 < w.heap.size := e; omega) _).setCell (p := ⟨n1, 2, none⟩) (fun e => by have e : n1 < w.heap.size := e; omega) _
  clear c0 c1 c2 f0 f1 f2 hW0 hW1
  refine (hrt.out W1 hf1).mono ?_
  rintro e w2 ⟨v2, rfl, hp2, hlo2, hf2⟩
  obtain ⟨a2, vc2, rfl⟩ := hp2.sl
  have HF2 := Lib.hid (hf1.trans hf2)
  clear hf1 hp2 hlo2 hf2
  dsimp only [List.length_nil]
  go_wp2_with fail
  refine wp_loop_rounds 2 ?_
  repeat (rw [rounds_succ]; go_wp2_with fail)
  go_ret
  exact ⟨rfl, HF2.out⟩
end Go.Proofs.YtlniekobijcanaaGreat
