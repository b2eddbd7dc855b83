/- ident: for every input IdentOnce returns true and leaves its input as it was; no condition. -/
import Derived.Test.YtakjiicnbocjeaaRows
import Derived.Test.YtakjiicnbocjeaaIdO
import Derived.Deep.RegionWith
import Derived.Deep.QuietTactic
import Derived.BigQuiet
namespace Go.Proofs.Ytakjiicnbocjeaa.identOnce
open Go.ChangeShapes Go.WideShapes Go.ChangeAt Go.RowKit Go.Maps
theorem zeroB (w : World) : (zeroValue 4).run Try.prog w = .ok (.bool false) w := by kernel_rfl
theorem zeroA (w : World) : (zeroValue 31).run Try.prog w = .ok Ans.zero.enc w := by kernel_rfl
structure St (w wr : World) (n0 f0 : Nat) (TS : Nat → Prop) (A : Tbl) (F : List (PK × Bool)) (T : List (PK × Ans)) (k : Nat) : Prop where
  ta : TA wr (n0 + 1) TS A
  mf : Mp Try.prog wr 36 ktP Value.bool f0 F
  mt : Mp Try.prog wr 36 ktP Ans.enc (f0 + 1) T
  nf : ¬ TS f0
  nt : ¬ TS (f0 + 1)
  lf : F.length ≤ k
  lt : T.length ≤ k
  fr : Fr (fun b => n0 ≤ b) w wr
  ge : ∀ b, TS b → n0 ≤ b
  f0n : n0 ≤ f0
section
variable {w wr w' : World} {n0 f0 k : Nat} {TS TS' : Nat → Prop} {A A' : Tbl} {F : List (PK × Bool)} {T : List (PK × Ans)}
theorem St.frame (h : St w wr n0 f0 TS A F T k) (hf : Fr (fun _ => False) wr w') : St w w' n0 f0 TS A F T k :=
  ⟨h.ta.fr hf (fun _ _ h => h), hf.mp h.mf (fun h => h), hf.mp h.mt (fun h => h), h.nf, h.nt, h.lf, h.lt, h.fr.trans (hf.mono (fun _ _ h => h.elim)), h.ge, h.f0n⟩
theorem St.step (h : St w wr n0 f0 TS A F T k) (hs : Stp TS wr w' TS') (hT : TA w' (n0 + 1) TS' A') (hn : w.heap.size = n0) : St w w' n0 f0 TS' A' F T k := by
  have h1 := h.mf.lt
  have h2 := h.mt.lt
  refine ⟨hT, hs.1.mp h.mf h.nf, hs.1.mp h.mt h.nt, fun e => ?_, fun e => ?_, h.lf, h.lt, hs.fr h.fr h.ge, hs.low h.ge (by have := h.fr.size; omega), h.f0n⟩
  · rcases hs.2 _ e with e | e
    · exact h.nf e
    · omega
  · rcases hs.2 _ e with e | e
    · exact h.nt e
    · omega
theorem St.putF (h : St w wr n0 f0 TS A F T k) (p : PK) (v : Bool) (hk : (k : Int) ≤ 200) : ∃ w2, (Instr.mapUpdate 26 (.map (some f0)) p.enc (.bool v)).run Try.prog wr = .ok () w2 ∧ St w w2 n0 f0 TS A (putS ktP.lt F p v) T (k + 1) ∧ Fr (fun b => b = f0) wr w2 := by
  obtain ⟨w2, h1, h2, h3⟩ := h.mf.store pairK Try.underlying26 (by have := h.lf; omega) (x := p) trivial v
  have hf : Fr (fun b => b = f0) wr w2 := Fr.turned h3 rfl
  exact ⟨w2, h1, ⟨h.ta.fr hf (fun b hb e => h.nf (e ▸ hb)), h2, hf.mp h.mt (by omega), h.nf, h.nt, Nat.le_trans (putK_len _ _ _) (by have := h.lf; omega), by have := h.lt; omega, h.fr.trans (hf.mono (fun b _ e => by have := h.f0n; omega)), h.ge, h.f0n⟩, hf⟩
theorem St.putT (h : St w wr n0 f0 TS A F T k) (p : PK) (v : Ans) (hk : (k : Int) ≤ 200) : ∃ w2, (Instr.mapUpdate 27 (.map (some (f0 + 1))) p.enc v.enc).run Try.prog wr = .ok () w2 ∧ St w w2 n0 f0 TS A F (putS ktP.lt T p v) (k + 1) ∧ Fr (fun b => b = f0 + 1) wr w2 := by
  obtain ⟨w2, h1, h2, h3⟩ := h.mt.store pairK Try.underlying27 (by have := h.lt; omega) (x := p) trivial v
  have hf : Fr (fun b => b = f0 + 1) wr w2 := Fr.turned h3 rfl
  exact ⟨w2, h1, ⟨h.ta.fr hf (fun b hb e => h.nt (e ▸ hb)), hf.mp h.mf (by omega), h2, h.nf, h.nt, by have := h.lf; omega, Nat.le_trans (putK_len _ _ _) (by have := h.lt; omega), h.fr.trans (hf.mono (fun b _ e => by have := h.f0n; omega)), h.ge, h.f0n⟩, hf⟩
theorem St.lookF (h : St w wr n0 f0 TS A F T k) (p : PK) : (Instr.lookup 26 (.map (some f0)) p.enc false).run Try.prog wr = .ok (.bool ((getS F p).getD false)) wr := by
  have := h.mf.look pairK Try.underlying26 (zeroB wr) (x := p) trivial
  have e : ktP.enc p = p.enc := rfl
  rw [e] at this
  rw [this]
  cases getS F p <;> rfl
theorem St.lookT (h : St w wr n0 f0 TS A F T k) (p : PK) : (Instr.lookup 27 (.map (some (f0 + 1))) p.enc true).run Try.prog wr = .ok (.tuple #[((getS T p).getD Ans.zero).enc, .bool (getS T p).isSome]) wr := by
  have := h.mt.look_ok pairK Try.underlying27 (zeroA wr) (x := p) trivial
  have e : ktP.enc p = p.enc := rfl
  rw [e] at this
  rw [this]
  cases getS T p <;> rfl
theorem St.up (h : St w wr n0 f0 TS A F T k) : St w wr n0 f0 TS A F T (k + 1) := { h with lf := by have := h.lf; omega, lt := by have := h.lt; omega }
end
set_option maxRecDepth 100000 in
set_option maxHeartbeats 8000000 in
theorem walk (v : Value) (L : List OpV) (w : World) (hL : Ops w v L) : Calls Try.prog 3 #[v] w fun e w' => e = .returned (.bool true) ∧ Below w.heap.size w w' := by
  obtain ⟨hlm0, a0, c0, rfl, -⟩ := id hL
  have hlm : L.length ≤ 9223372036854775807 := hlm0
  clear hlm0
  have hmm := @run_makeMap Try.prog
  obtain ⟨n0, hn0⟩ : ∃ n0, w.heap.size = n0 := ⟨_, rfl⟩
  have HS := Lib.hid hn0
  have HL := Lib.hid hL
  clear hL
  go_enter Try.func3, Try.ntmps3
  go_wp2_with (go_at_call 9; refine (xNew _).mono ?_; rintro e w1 ⟨rfl, hT1, hf1, hs1⟩; rw [hn0] at hs1 hT1)
  refine (iLives _).mono ?_
  rintro e w2 ⟨rfl, hb2⟩
  have hT2 := hT1.fr (Fr.below hb2) (fun _ _ h => h)
  have hF2 : Fr (fun b => n0 ≤ b) w w2 := (hf1.mono (fun _ _ h => h.elim)).trans (Fr.below hb2)
  have hs2 := hb2.size
  have HQ : Hid (St w ((w2.alloc (.map #[] 0)).alloc (.map #[] 0)) n0 w2.heap.size (fun b => b = n0 ∨ b = n0 + 1) [] [] [] 0) := by
    refine Lib.hid ⟨hT2.fr (((Fr.refl (fun _ => False) _).alloc _).alloc _) (fun _ _ h => h), (Mp.made _ w2 _ _ _).alloc _, ?_, by omega, by omega, by simp, by simp, (hF2.alloc _).alloc _, fun b h => by omega, by omega⟩
    have := Mp.made Try.prog (w2.alloc (.map #[] 0)) 36 ktP Ans.enc
    simpa using this
  clear hf1 hb2 hT1 hs1 hT2 hF2 hs2
  go_wp2_with fail
  obtain ⟨f0, hf0⟩ : ∃ f0, w2.heap.size = f0 := ⟨_, rfl⟩
  rw [hf0] at HQ ⊢
  generalize (w2.alloc (.map #[] 0)).alloc (.map #[] 0) = w3 at *
  clear hf0
  go_loopw [6] (fun i wr => ∃ (k : Nat) (A : Tbl) (TS : Nat → Prop) (F : List (PK × Bool)) (T : List (PK × Ans)), k ≤ L.length ∧ (k : Int) ≤ 200 ∧ i = .int .i64 k ∧ Inv A F T ∧ St w wr n0 f0 TS A F T k) (fun i _ => 200 - (intOf i).toNat)
  case atStart => exact ⟨0, [], _, _, _, by omega, by omega, rfl, Inv.nil, HQ.out⟩
  case round =>
    obtain ⟨k, A, TS, F, T, hk, hk2, rfl, hiv, hst⟩ := hrel
    have HIV := Lib.hid hiv
    clear hiv
    have HO := Lib.hid (HL.out.fr hst.fr (fun b h => by have := HS.out; omega))
    have HST := Lib.hid hst
    clear hst
    by_cases hkl : k < L.length
    · by_cases hk3 : (k : Int) < 200
      · obtain ⟨r, hr⟩ : ∃ r, L[k]? = some r := ⟨L[k], List.getElem?_eq_getElem hkl⟩
        obtain ⟨a, rfl, hok, q0, q1, q2, q3, q4, q5, q6, q7⟩ := HO.out.at_ hr
        obtain ⟨kd, c, n, body, bs, ⟨ac, an, acode, ak⟩⟩ := r
        dsimp only at q0 q1 q2 q3 q4 q5 q6 q7
        obtain ⟨-, ba, bc, hbe, -⟩ := id hok.bs
        obtain ⟨bn, hbn⟩ : ∃ bn, bs.length = bn := ⟨_, rfl⟩
        dsimp only at hbe
        rw [hbn] at hbe
        subst hbe
        have HK := Lib.hid hok
        clear hok hr hbn
        rcases (by omega : kd = 1 ∨ kd = 2 ∨ kd = 3 ∨ (kd ≠ 1 ∧ kd ≠ 2 ∧ kd ≠ 3)) with rfl | rfl | rfl | ⟨z1, z2, z3⟩
        · -- Ask
          have hfo := (Fr.refl (fun _ => False) wr).alloc (.cells #[.int .i64 1, .int .i64 c, .int .i64 n, .slice ba bn bc, .int .i64 ac, .int .i64 an, .int .i64 acode, .int .i64 ak] 33)
          have HX3 := Lib.hid (HST.out.frame hfo)
          have HB3 := Lib.hid (heap_new wr (.cells #[.int .i64 1, .int .i64 c, .int .i64 n, .slice ba bn bc, .int .i64 ac, .int .i64 an, .int .i64 acode, .int .i64 ak] 33))
          have HK3 := Lib.hid (HK.out.fr hfo (fun _ h => h.elim))
          have HN3 : Hid (¬ TS wr.heap.size) := Lib.hid (fun e => by have := HST.out.ta.lt _ e; omega)
          clear hfo
          go_wp2_with fail
          clear q0 q1 q2 q3 q4 q5 q6 q7
          obtain ⟨M, hM⟩ : ∃ M, mixF 7 bs = M := ⟨_, rfl⟩
          have hI := HIV.out.ask ⟨(c, n), HK.out.c, HK.out.n⟩ M
          dsimp only at hI
          have hA := xAsk _ _ _ _ c n _ bs HX3.out.ta HK3.out.bs
          rw [hM] at hA
          have hinv := hI.2
          have hcase := hI.1
          clear hI
          obtain ⟨V, hV⟩ : ∃ V, (askA A c n M).1 = V := ⟨_, rfl⟩
          obtain ⟨⟨rc, rn, rcode, rk⟩, hR⟩ : ∃ R, (askA A c n M).2 = R := ⟨_, rfl⟩
          rw [hV] at hA hcase hinv
          rw [hR] at hA hcase
          obtain ⟨b, hb⟩ : ∃ b, (getS F (⟨(c, n), HK.out.c, HK.out.n⟩ : PK)).getD false = b := ⟨_, rfl⟩
          rw [hb] at hcase hinv
          have HINV := Lib.hid hinv; have HCASE := Lib.hid hcase; have HBB := Lib.hid hb
          refine hA.mono ?_
          clear hA hV hR hM hinv hcase hb
          rintro e w4 ⟨rfl, TS4, hT, hs⟩
          unfold Ans.enc
          dsimp only
          have HB4 := Lib.hid (hs.1.at_ HB3.out HN3.out)
          have HT4 := Lib.hid hT; have HS4 := Lib.hid hs
          clear hT hs
          have HB5 := Lib.hid (heap_keep HB4.out (.cells #[.int .i64 rc, .int .i64 rn, .int .i64 rcode, .int .i64 rk] 31))
          have HX5 := Lib.hid ((HX3.out.step HS4.out HT4.out HS.out).frame (((Fr.refl (fun _ => False) _).alloc (.cells #[.int .i64 rc, .int .i64 rn, .int .i64 rcode, .int .i64 rk] 31)).alloc (.cells #[.int .i64 c, .int .i64 n] 36)))
          have HX7 := Lib.hid (HX5.out.frame (Fr.refl (fun _ => False) _).drew)
          have hA5 := heap_new w4 (.cells #[.int .i64 rc, .int .i64 rn, .int .i64 rcode, .int .i64 rk] 31)
          have hK5 := heap_new (w4.alloc (.cells #[.int .i64 rc, .int .i64 rn, .int .i64 rcode, .int .i64 rk] 31)) (.cells #[.int .i64 c, .int .i64 n] 36)
          have HA6 := Lib.hid (heap_keep hA5 (.cells #[.int .i64 c, .int .i64 n] 36))
          rw [World.size_alloc] at hK5
          have HK6 := Lib.hid hK5
          clear hA5 hK5
          have p1 := cell_obj HB5.out 1 (.int .i64 c) rfl
          have p2 := cell_obj HB5.out 2 (.int .i64 n) rfl
          have hl6 := HX5.out.lookF (⟨(c, n), HK.out.c, HK.out.n⟩ : PK)
          rw [HBB.out] at hl6
          have hl7 := HX7.out.lookF (⟨(c, n), HK.out.c, HK.out.n⟩ : PK)
          rw [HBB.out] at hl7
          unfold PK.enc at hl6 hl7
          dsimp only at hl6 hl7
          rcases HCASE.out with ⟨hV, hR, hb⟩ | ⟨hV, hR⟩ | ⟨hV1, hV3, hR⟩
          · subst hV
            subst hb
            unfold Ans.zero at hR
            injection hR with e1 e2 e3 e4
            subst e1 e2 e3 e4
            go_wp2_with fail
            have HK7 : Hid ((((w4.alloc (.cells #[.int .i64 0, .int .i64 0, .int .i64 0, .int .i64 0] 31)).alloc (.cells #[.int .i64 c, .int .i64 n] 36)).drew).heap[w4.heap.size + 1]? = some (.cells #[.int .i64 c, .int .i64 n] 36)) := Lib.hid HK6.out
            have HA7 : Hid ((((w4.alloc (.cells #[.int .i64 0, .int .i64 0, .int .i64 0, .int .i64 0] 31)).alloc (.cells #[.int .i64 c, .int .i64 n] 36)).drew).heap[w4.heap.size]? = some (.cells #[.int .i64 0, .int .i64 0, .int .i64 0, .int .i64 0] 31)) := Lib.hid HA6.out
            refine wp_region_still_tail 9 (by kernel_rfl) (by kernel_rfl) ?_
            simp only [List.take_succ_cons, List.take_zero, List.drop_succ_cons, List.drop_zero]
            change wpStill _ _ (World.drew _) (fun a' => wpList _ _ _ _ a' (World.drew _)) _ _
            have hlt0 : f0 + 1 < w4.heap.size := by have h1 := (HX3.out.step HS4.out HT4.out HS.out).mt.lt; omega
            clear hl6 HX5 HA6 HK6 p1 p2
            generalize ((w4.alloc (.cells #[.int .i64 0, .int .i64 0, .int .i64 0, .int .i64 0] 31)).alloc (.cells #[.int .i64 c, .int .i64 n] 36)).drew = W7 at *
            have k0 := cell_obj HK7.out 0 (.int .i64 c) rfl
            have k1 := cell_obj HK7.out 1 (.int .i64 n) rfl
            repeat still_step
            refine wpStill_nil ?_
            clear hl7 k0 k1
            obtain ⟨w8, hst8, hX8, hf8⟩ := HX7.out.putF (⟨(c, n), HK.out.c, HK.out.n⟩ : PK) true hk2
            unfold PK.enc at hst8
            dsimp only at hst8
            have HK8 := Lib.hid (hf8.at_ HK7.out (by omega))
            have HA8 := Lib.hid (hf8.at_ HA7.out (by omega))
            have HX8 := Lib.hid hX8
            have hl8 := HX8.out.lookT (⟨(c, n), HK.out.c, HK.out.n⟩ : PK)
            unfold PK.enc at hl8
            dsimp only at hl8
            obtain ⟨⟨t1, t2, t3, t4⟩, ht⟩ : ∃ x, (getS T (⟨(c, n), HK.out.c, HK.out.n⟩ : PK)).getD Ans.zero = x := ⟨_, rfl⟩
            obtain ⟨is, his⟩ : ∃ x, (getS T (⟨(c, n), HK.out.c, HK.out.n⟩ : PK)).isSome = x := ⟨_, rfl⟩
            rw [ht, his] at hl8
            unfold Ans.enc at hl8
            dsimp only at hl8
            clear ht his
            have k0 := cell_obj HK8.out 0 (.int .i64 c) rfl
            have k1 := cell_obj HK8.out 1 (.int .i64 n) rfl
            have a0 := cell_obj (heap_keep HA8.out (.cells #[.int .i64 t1, .int .i64 t2, .int .i64 t3, .int .i64 t4] 31)) 0 (.int .i64 0) rfl
            have a1 := cell_obj (heap_keep HA8.out (.cells #[.int .i64 t1, .int .i64 t2, .int .i64 t3, .int .i64 t4] 31)) 1 (.int .i64 0) rfl
            have a2 := cell_obj (heap_keep HA8.out (.cells #[.int .i64 t1, .int .i64 t2, .int .i64 t3, .int .i64 t4] 31)) 2 (.int .i64 0) rfl
            have a3 := cell_obj (heap_keep HA8.out (.cells #[.int .i64 t1, .int .i64 t2, .int .i64 t3, .int .i64 t4] 31)) 3 (.int .i64 0) rfl
            have HX9 := Lib.hid (HX8.out.frame ((Fr.refl (fun _ => False) _).alloc (.cells #[.int .i64 t1, .int .i64 t2, .int .i64 t3, .int .i64 t4] 31)))
            clear hf8 hX8
            go_wp2_with fail
            go_roundw
            case rel => exact ⟨k + 1, _, _, _, _, by omega, by omega, by go_num, (by simpa [] using HINV.out), HX9.out⟩
            case measure => simp [intOf]; omega
          · subst hV
            have HR := Lib.hid hR
            clear hR
            cases b
            · skip
              go_wp2_with fail
              have HK7 : Hid ((((w4.alloc (.cells #[.int .i64 rc, .int .i64 rn, .int .i64 rcode, .int .i64 rk] 31)).alloc (.cells #[.int .i64 c, .int .i64 n] 36)).drew).heap[w4.heap.size + 1]? = some (.cells #[.int .i64 c, .int .i64 n] 36)) := Lib.hid HK6.out
              have HA7 : Hid ((((w4.alloc (.cells #[.int .i64 rc, .int .i64 rn, .int .i64 rcode, .int .i64 rk] 31)).alloc (.cells #[.int .i64 c, .int .i64 n] 36)).drew).heap[w4.heap.size]? = some (.cells #[.int .i64 rc, .int .i64 rn, .int .i64 rcode, .int .i64 rk] 31)) := Lib.hid HA6.out
              refine wp_region_still_tail 9 (by kernel_rfl) (by kernel_rfl) ?_
              simp only [List.take_succ_cons, List.take_zero, List.drop_succ_cons, List.drop_zero]
              change wpStill _ _ (World.drew _) (fun a' => wpList _ _ _ _ a' (World.drew _)) _ _
              have hlt0 : f0 + 1 < w4.heap.size := by have h1 := (HX3.out.step HS4.out HT4.out HS.out).mt.lt; omega
              clear hl6 HX5 HA6 HK6 p1 p2
              generalize ((w4.alloc (.cells #[.int .i64 rc, .int .i64 rn, .int .i64 rcode, .int .i64 rk] 31)).alloc (.cells #[.int .i64 c, .int .i64 n] 36)).drew = W7 at *
              have k0 := cell_obj HK7.out 0 (.int .i64 c) rfl
              have k1 := cell_obj HK7.out 1 (.int .i64 n) rfl
              repeat still_step
              refine wpStill_nil ?_
              clear hl7 k0 k1
              obtain ⟨w8, hst8, hX8, hf8⟩ := HX7.out.putF (⟨(c, n), HK.out.c, HK.out.n⟩ : PK) false hk2
              unfold PK.enc at hst8
              dsimp only at hst8
              have HK8 := Lib.hid (hf8.at_ HK7.out (by omega))
              have HA8 := Lib.hid (hf8.at_ HA7.out (by omega))
              have HX8 := Lib.hid hX8
              have hl8 := HX8.out.lookT (⟨(c, n), HK.out.c, HK.out.n⟩ : PK)
              unfold PK.enc at hl8
              dsimp only at hl8
              rw [HR.out] at hl8
              simp only [Option.getD_some, Option.isSome_some] at hl8
              unfold Ans.enc at hl8
              dsimp only at hl8
              have k0 := cell_obj HK8.out 0 (.int .i64 c) rfl
              have k1 := cell_obj HK8.out 1 (.int .i64 n) rfl
              have a0 := cell_obj (heap_keep HA8.out (.cells #[.int .i64 rc, .int .i64 rn, .int .i64 rcode, .int .i64 rk] 31)) 0 (.int .i64 rc) rfl
              have a1 := cell_obj (heap_keep HA8.out (.cells #[.int .i64 rc, .int .i64 rn, .int .i64 rcode, .int .i64 rk] 31)) 1 (.int .i64 rn) rfl
              have a2 := cell_obj (heap_keep HA8.out (.cells #[.int .i64 rc, .int .i64 rn, .int .i64 rcode, .int .i64 rk] 31)) 2 (.int .i64 rcode) rfl
              have a3 := cell_obj (heap_keep HA8.out (.cells #[.int .i64 rc, .int .i64 rn, .int .i64 rcode, .int .i64 rk] 31)) 3 (.int .i64 rk) rfl
              have HX9 := Lib.hid (HX8.out.frame ((Fr.refl (fun _ => False) _).alloc (.cells #[.int .i64 rc, .int .i64 rn, .int .i64 rcode, .int .i64 rk] 31)))
              clear hf8 hX8
              go_wp2_with fail
              go_roundw
              case rel => exact ⟨k + 1, _, _, _, _, by omega, by omega, by go_num, (by simpa [] using HINV.out), HX9.out⟩
              case measure => simp [intOf]; omega
            · skip
              go_wp2_with fail
              have HK7 : Hid ((((w4.alloc (.cells #[.int .i64 rc, .int .i64 rn, .int .i64 rcode, .int .i64 rk] 31)).alloc (.cells #[.int .i64 c, .int .i64 n] 36)).drew).heap[w4.heap.size + 1]? = some (.cells #[.int .i64 c, .int .i64 n] 36)) := Lib.hid HK6.out
              have HA7 : Hid ((((w4.alloc (.cells #[.int .i64 rc, .int .i64 rn, .int .i64 rcode, .int .i64 rk] 31)).alloc (.cells #[.int .i64 c, .int .i64 n] 36)).drew).heap[w4.heap.size]? = some (.cells #[.int .i64 rc, .int .i64 rn, .int .i64 rcode, .int .i64 rk] 31)) := Lib.hid HA6.out
              refine wp_region_still_tail 9 (by kernel_rfl) (by kernel_rfl) ?_
              simp only [List.take_succ_cons, List.take_zero, List.drop_succ_cons, List.drop_zero]
              change wpStill _ _ (World.drew _) (fun a' => wpList _ _ _ _ a' (World.drew _)) _ _
              have hlt0 : f0 + 1 < w4.heap.size := by have h1 := (HX3.out.step HS4.out HT4.out HS.out).mt.lt; omega
              clear hl6 HX5 HA6 HK6 p1 p2
              generalize ((w4.alloc (.cells #[.int .i64 rc, .int .i64 rn, .int .i64 rcode, .int .i64 rk] 31)).alloc (.cells #[.int .i64 c, .int .i64 n] 36)).drew = W7 at *
              have k0 := cell_obj HK7.out 0 (.int .i64 c) rfl
              have k1 := cell_obj HK7.out 1 (.int .i64 n) rfl
              repeat still_step
              refine wpStill_nil ?_
              clear hl7 k0 k1
              obtain ⟨w8, hst8, hX8, hf8⟩ := HX7.out.putF (⟨(c, n), HK.out.c, HK.out.n⟩ : PK) true hk2
              unfold PK.enc at hst8
              dsimp only at hst8
              have HK8 := Lib.hid (hf8.at_ HK7.out (by omega))
              have HA8 := Lib.hid (hf8.at_ HA7.out (by omega))
              have HX8 := Lib.hid hX8
              have hl8 := HX8.out.lookT (⟨(c, n), HK.out.c, HK.out.n⟩ : PK)
              unfold PK.enc at hl8
              dsimp only at hl8
              rw [HR.out] at hl8
              simp only [Option.getD_some, Option.isSome_some] at hl8
              unfold Ans.enc at hl8
              dsimp only at hl8
              have k0 := cell_obj HK8.out 0 (.int .i64 c) rfl
              have k1 := cell_obj HK8.out 1 (.int .i64 n) rfl
              have a0 := cell_obj (heap_keep HA8.out (.cells #[.int .i64 rc, .int .i64 rn, .int .i64 rcode, .int .i64 rk] 31)) 0 (.int .i64 rc) rfl
              have a1 := cell_obj (heap_keep HA8.out (.cells #[.int .i64 rc, .int .i64 rn, .int .i64 rcode, .int .i64 rk] 31)) 1 (.int .i64 rn) rfl
              have a2 := cell_obj (heap_keep HA8.out (.cells #[.int .i64 rc, .int .i64 rn, .int .i64 rcode, .int .i64 rk] 31)) 2 (.int .i64 rcode) rfl
              have a3 := cell_obj (heap_keep HA8.out (.cells #[.int .i64 rc, .int .i64 rn, .int .i64 rcode, .int .i64 rk] 31)) 3 (.int .i64 rk) rfl
              have HX9 := Lib.hid (HX8.out.frame ((Fr.refl (fun _ => False) _).alloc (.cells #[.int .i64 rc, .int .i64 rn, .int .i64 rcode, .int .i64 rk] 31)))
              clear hf8 hX8
              go_wp2_with fail
              go_roundw
              case rel => exact ⟨k + 1, _, _, _, _, by omega, by omega, by go_num, (by simpa [] using HINV.out), HX9.out⟩
              case measure => simp [intOf]; omega
          · skip
            unfold Ans.zero at hR
            injection hR with e1 e2 e3 e4
            subst e1 e2 e3 e4
            have hv1 : (V == 1) = false := by simpa using hV1
            have hv3 : (V == 3) = false := by simpa using hV3
            cases b
            · skip
              go_wp2_with fail
              have HK7 : Hid ((((w4.alloc (.cells #[.int .i64 0, .int .i64 0, .int .i64 0, .int .i64 0] 31)).alloc (.cells #[.int .i64 c, .int .i64 n] 36)).drew).heap[w4.heap.size + 1]? = some (.cells #[.int .i64 c, .int .i64 n] 36)) := Lib.hid HK6.out
              have HA7 : Hid ((((w4.alloc (.cells #[.int .i64 0, .int .i64 0, .int .i64 0, .int .i64 0] 31)).alloc (.cells #[.int .i64 c, .int .i64 n] 36)).drew).heap[w4.heap.size]? = some (.cells #[.int .i64 0, .int .i64 0, .int .i64 0, .int .i64 0] 31)) := Lib.hid HA6.out
              refine wp_region_still_tail 9 (by kernel_rfl) (by kernel_rfl) ?_
              simp only [List.take_succ_cons, List.take_zero, List.drop_succ_cons, List.drop_zero]
              change wpStill _ _ (World.drew _) (fun a' => wpList _ _ _ _ a' (World.drew _)) _ _
              have hlt0 : f0 + 1 < w4.heap.size := by have h1 := (HX3.out.step HS4.out HT4.out HS.out).mt.lt; omega
              clear hl6 HX5 HA6 HK6 p1 p2
              generalize ((w4.alloc (.cells #[.int .i64 0, .int .i64 0, .int .i64 0, .int .i64 0] 31)).alloc (.cells #[.int .i64 c, .int .i64 n] 36)).drew = W7 at *
              have k0 := cell_obj HK7.out 0 (.int .i64 c) rfl
              have k1 := cell_obj HK7.out 1 (.int .i64 n) rfl
              repeat still_step
              refine wpStill_nil ?_
              clear hl7 k0 k1
              obtain ⟨w8, hst8, hX8, hf8⟩ := HX7.out.putF (⟨(c, n), HK.out.c, HK.out.n⟩ : PK) false hk2
              unfold PK.enc at hst8
              dsimp only at hst8
              have HK8 := Lib.hid (hf8.at_ HK7.out (by omega))
              have HA8 := Lib.hid (hf8.at_ HA7.out (by omega))
              have HX8 := Lib.hid hX8
              have hl8 := HX8.out.lookT (⟨(c, n), HK.out.c, HK.out.n⟩ : PK)
              unfold PK.enc at hl8
              dsimp only at hl8
              obtain ⟨⟨t1, t2, t3, t4⟩, ht⟩ : ∃ x, (getS T (⟨(c, n), HK.out.c, HK.out.n⟩ : PK)).getD Ans.zero = x := ⟨_, rfl⟩
              obtain ⟨is, his⟩ : ∃ x, (getS T (⟨(c, n), HK.out.c, HK.out.n⟩ : PK)).isSome = x := ⟨_, rfl⟩
              rw [ht, his] at hl8
              unfold Ans.enc at hl8
              dsimp only at hl8
              clear ht his
              have k0 := cell_obj HK8.out 0 (.int .i64 c) rfl
              have k1 := cell_obj HK8.out 1 (.int .i64 n) rfl
              have a0 := cell_obj (heap_keep HA8.out (.cells #[.int .i64 t1, .int .i64 t2, .int .i64 t3, .int .i64 t4] 31)) 0 (.int .i64 0) rfl
              have a1 := cell_obj (heap_keep HA8.out (.cells #[.int .i64 t1, .int .i64 t2, .int .i64 t3, .int .i64 t4] 31)) 1 (.int .i64 0) rfl
              have a2 := cell_obj (heap_keep HA8.out (.cells #[.int .i64 t1, .int .i64 t2, .int .i64 t3, .int .i64 t4] 31)) 2 (.int .i64 0) rfl
              have a3 := cell_obj (heap_keep HA8.out (.cells #[.int .i64 t1, .int .i64 t2, .int .i64 t3, .int .i64 t4] 31)) 3 (.int .i64 0) rfl
              have HX9 := Lib.hid (HX8.out.frame ((Fr.refl (fun _ => False) _).alloc (.cells #[.int .i64 t1, .int .i64 t2, .int .i64 t3, .int .i64 t4] 31)))
              clear hf8 hX8
              go_wp2_with fail
              go_roundw
              case rel => exact ⟨k + 1, _, _, _, _, by omega, by omega, by go_num, (by simpa [hV1] using HINV.out), HX9.out⟩
              case measure => simp [intOf]; omega
            · skip
              go_wp2_with fail
              have HK7 : Hid ((((w4.alloc (.cells #[.int .i64 0, .int .i64 0, .int .i64 0, .int .i64 0] 31)).alloc (.cells #[.int .i64 c, .int .i64 n] 36)).drew).heap[w4.heap.size + 1]? = some (.cells #[.int .i64 c, .int .i64 n] 36)) := Lib.hid HK6.out
              have HA7 : Hid ((((w4.alloc (.cells #[.int .i64 0, .int .i64 0, .int .i64 0, .int .i64 0] 31)).alloc (.cells #[.int .i64 c, .int .i64 n] 36)).drew).heap[w4.heap.size]? = some (.cells #[.int .i64 0, .int .i64 0, .int .i64 0, .int .i64 0] 31)) := Lib.hid HA6.out
              refine wp_region_still_tail 9 (by kernel_rfl) (by kernel_rfl) ?_
              simp only [List.take_succ_cons, List.take_zero, List.drop_succ_cons, List.drop_zero]
              change wpStill _ _ (World.drew _) (fun a' => wpList _ _ _ _ a' (World.drew _)) _ _
              have hlt0 : f0 + 1 < w4.heap.size := by have h1 := (HX3.out.step HS4.out HT4.out HS.out).mt.lt; omega
              clear hl6 HX5 HA6 HK6 p1 p2
              generalize ((w4.alloc (.cells #[.int .i64 0, .int .i64 0, .int .i64 0, .int .i64 0] 31)).alloc (.cells #[.int .i64 c, .int .i64 n] 36)).drew = W7 at *
              have k0 := cell_obj HK7.out 0 (.int .i64 c) rfl
              have k1 := cell_obj HK7.out 1 (.int .i64 n) rfl
              repeat still_step
              refine wpStill_nil ?_
              clear hl7 k0 k1
              obtain ⟨w8, hst8, hX8, hf8⟩ := HX7.out.putF (⟨(c, n), HK.out.c, HK.out.n⟩ : PK) true hk2
              unfold PK.enc at hst8
              dsimp only at hst8
              have HK8 := Lib.hid (hf8.at_ HK7.out (by omega))
              have HA8 := Lib.hid (hf8.at_ HA7.out (by omega))
              have HX8 := Lib.hid hX8
              have hl8 := HX8.out.lookT (⟨(c, n), HK.out.c, HK.out.n⟩ : PK)
              unfold PK.enc at hl8
              dsimp only at hl8
              obtain ⟨⟨t1, t2, t3, t4⟩, ht⟩ : ∃ x, (getS T (⟨(c, n), HK.out.c, HK.out.n⟩ : PK)).getD Ans.zero = x := ⟨_, rfl⟩
              obtain ⟨is, his⟩ : ∃ x, (getS T (⟨(c, n), HK.out.c, HK.out.n⟩ : PK)).isSome = x := ⟨_, rfl⟩
              rw [ht, his] at hl8
              unfold Ans.enc at hl8
              dsimp only at hl8
              clear ht his
              have k0 := cell_obj HK8.out 0 (.int .i64 c) rfl
              have k1 := cell_obj HK8.out 1 (.int .i64 n) rfl
              have a0 := cell_obj (heap_keep HA8.out (.cells #[.int .i64 t1, .int .i64 t2, .int .i64 t3, .int .i64 t4] 31)) 0 (.int .i64 0) rfl
              have a1 := cell_obj (heap_keep HA8.out (.cells #[.int .i64 t1, .int .i64 t2, .int .i64 t3, .int .i64 t4] 31)) 1 (.int .i64 0) rfl
              have a2 := cell_obj (heap_keep HA8.out (.cells #[.int .i64 t1, .int .i64 t2, .int .i64 t3, .int .i64 t4] 31)) 2 (.int .i64 0) rfl
              have a3 := cell_obj (heap_keep HA8.out (.cells #[.int .i64 t1, .int .i64 t2, .int .i64 t3, .int .i64 t4] 31)) 3 (.int .i64 0) rfl
              have HX9 := Lib.hid (HX8.out.frame ((Fr.refl (fun _ => False) _).alloc (.cells #[.int .i64 t1, .int .i64 t2, .int .i64 t3, .int .i64 t4] 31)))
              clear hf8 hX8
              go_wp2_with fail
              go_roundw
              case rel => exact ⟨k + 1, _, _, _, _, by omega, by omega, by go_num, (by simpa [hV1] using HINV.out), HX9.out⟩
              case measure => simp [intOf]; omega
        · -- Tell
          have hfo := (Fr.refl (fun _ => False) wr).alloc (.cells #[.int .i64 2, .int .i64 c, .int .i64 n, .slice ba bn bc, .int .i64 ac, .int .i64 an, .int .i64 acode, .int .i64 ak] 33)
          have HX3 := Lib.hid (HST.out.frame hfo)
          have HB3 := Lib.hid (heap_new wr (.cells #[.int .i64 2, .int .i64 c, .int .i64 n, .slice ba bn bc, .int .i64 ac, .int .i64 an, .int .i64 acode, .int .i64 ak] 33))
          have HN3 : Hid (¬ TS wr.heap.size) := Lib.hid (fun e => by have := HST.out.ta.lt _ e; omega)
          clear hfo
          go_wp2_with fail
          clear q0 q1 q2 q3 q4 q5 q6 q7
          refine (xTell _ _ _ _ ⟨ac, an, acode, ak⟩ HX3.out.ta).mono ?_
          obtain ⟨V, hV⟩ : ∃ V, tellA A ⟨ac, an, acode, ak⟩ = V := ⟨_, rfl⟩
          rw [hV]
          have hI := HIV.out.tell ⟨ac, an, acode, ak⟩ ⟨(ac, an), HK.out.ac, HK.out.an⟩ rfl
          rw [hV] at hI
          have HI := Lib.hid hI
          clear hI hV
          rintro e w4 ⟨rfl, TS4, hT, hs⟩
          have HB4 := Lib.hid (hs.1.at_ HB3.out HN3.out)
          have HX4 := Lib.hid (HX3.out.step hs hT HS.out)
          clear hs hT
          have p4 := cell_obj HB4.out 4 (.int .i64 ac) rfl
          have p5 := cell_obj HB4.out 5 (.int .i64 an) rfl
          have p6 := cell_obj HB4.out 6 (.int .i64 acode) rfl
          have p7 := cell_obj HB4.out 7 (.int .i64 ak) rfl
          by_cases h0 : V = 0
          · subst h0
            obtain ⟨w8, hst8, hX8, -⟩ := HX4.out.putT ⟨(ac, an), HK.out.ac, HK.out.an⟩ ⟨ac, an, acode, ak⟩ hk2
            unfold PK.enc Ans.enc at hst8
            dsimp only at hst8
            have HX8 := Lib.hid hX8
            clear hX8
            go_wp2_with fail
            go_roundw
            case rel => exact ⟨k + 1, _, _, _, _, by omega, by omega, by go_num, HI.out.1 (by trivial), HX8.out⟩
            case measure => simp [intOf]; omega
          · go_wp2_with fail
            go_roundw
            case rel => exact ⟨k + 1, _, _, _, _, by omega, by omega, by go_num, HI.out.2 h0, HX4.out.up⟩
            case measure => simp [intOf]; omega
        · -- Low
          have hfo := (Fr.refl (fun _ => False) wr).alloc (.cells #[.int .i64 3, .int .i64 c, .int .i64 n, .slice ba bn bc, .int .i64 ac, .int .i64 an, .int .i64 acode, .int .i64 ak] 33)
          have HX3 := Lib.hid (HST.out.frame hfo)
          clear hfo
          go_wp2_with fail
          clear q0 q1 q2 q3 q4 q5 q6 q7
          refine (xLow _ _ _ _ c n HX3.out.ta).mono ?_
          generalize lowA A c n = V
          rintro e w4 ⟨rfl, TS4, hT, hs⟩
          have HX4 := Lib.hid (HX3.out.step hs hT HS.out)
          clear hs hT
          go_wp2_with fail
          go_roundw
          case rel => exact ⟨k + 1, _, _, _, _, by omega, by omega, by go_num, HIV.out.low c n, HX4.out.up⟩
          case measure => simp [intOf]; omega
        · -- nothing
          have hfo := (Fr.refl (fun _ => False) wr).alloc (.cells #[.int .i64 kd, .int .i64 c, .int .i64 n, .slice ba bn bc, .int .i64 ac, .int .i64 an, .int .i64 acode, .int .i64 ak] 33)
          have HX3 := Lib.hid (HST.out.frame hfo)
          clear hfo
          go_wp2_with fail
          go_roundw
          case rel => exact ⟨k + 1, _, _, _, _, by omega, by omega, by go_num, HIV.out, HX3.out.up⟩
          case measure => simp [intOf]; omega
      · go_wp2_with fail
        go_ret
        exact ⟨rfl, HST.out.fr.toBelow (fun b h => by have := HS.out; omega) (by have := HS.out; omega)⟩
    · go_wp2_with fail
      go_ret
      exact ⟨rfl, HST.out.fr.toBelow (fun b h => by have := HS.out; omega) (by have := HS.out; omega)⟩
set_option maxRecDepth 100000 in
theorem lifted (os : Os) (started : os.Started) (H : Type) (enc : TypeId × Value → H) :
    ReturnsInHanded {} Try.checked os 3 .any (Rows.identOnceSpec.pre6 enc Try.prog Try.f3 Rows.identOnceRow.domain false) (Rows.identOnceSpec.post enc Try.prog Try.f3 false true false false) := by
  refine returnsInHanded_of_change (C := Try.checked) own started (by kernel_rfl) Try.func3
    (ChangeSpec.witness6 (enc := enc) (C := Try.checked) false ⟨#[], #[.slice none 0 0], []⟩ 8 (by kernel_rfl) (by kernel_rfl) (by kernel_rfl) (by kernel_rfl)) ?_
  intro W base args ds gs before hval0 hW hcnd _
  have hval : ∀ (j : Nat) t v, Try.f3.params[j]? = some t → args[j]? = some v → Value.okWide Try.prog W .any base t v := hval0
  have hW' := hW
  obtain ⟨p, q, hA0, hV, rfl, hfz, hnd⟩ := hW
  have hA : DataW.TrodAll enc Try.prog W 0 (fun _ => true) true Try.f3.params.toList args.toList ds p := hA0
  rw [Try.params3] at hA hval
  obtain ⟨v0, vs0, d0, ds0, p0, q0, hargs, rfl, rfl, h0, r0⟩ := trodAll_cons hA
  obtain ⟨rfl, rfl, rfl⟩ := trodAll_nil r0
  obtain rfl : args = #[v0] := by cases args; simp_all
  obtain ⟨rfl, rfl⟩ := trodVars_none hV
  obtain ⟨L0, hL0⟩ := open_ops (hval 0 22 v0 rfl rfl) h0
  clear hA0 hval0
  simp only [List.append_nil] at hW'
  refine (walk v0 L0 W hL0).mono fun e W' ⟨he, hg⟩ => ?_
  subst he
  exact ⟨_, rfl, law_post laidOut (by kernel_rfl) rfl Try.underlying4 hW' rfl rfl hg⟩
theorem over : Rows.identOnceRow.holds Try.pinned (OpenSpec.ofChange Rows.identOnceSpec) :=
  OpenClaim.holds_of_wide 3 Try.f3 rfl rfl rfl rfl rfl rfl rfl ⟨rfl, rfl, rfl, rfl, rfl⟩ rfl rfl rfl rfl rfl (by kernel_rfl) Try.func3 (by kernel_rfl)
    (of_decide_eq_true (by kernel_rfl)) (by unfold Func.isWrapper; first | (rw [if_pos (by decide +kernel)]; kernel_rfl) | (rw [if_neg (by decide +kernel)]; exact ⟨rfl, rfl⟩))
    (fun os started H enc _ => lifted os started H enc)
theorem proved : Rows.IdentOnceSaid :=
  over
#print axioms proved
end Go.Proofs.Ytakjiicnbocjeaa.identOnce
