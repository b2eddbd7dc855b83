/- bins: Pack. -/
import Derived.Test.YtefjdcghdcbojaaGreatBinsBackM8
import Derived.Deep.RegionHeld3
namespace Go.Proofs.YtefjdcghdcbojaaGreat
open Go.RowKit Go.Maps
theorem fbyt_app {a b : List Int} (ha : ∀ x ∈ a, 0 ≤ x ∧ x < 256) (hb : ∀ x ∈ b, 0 ≤ x ∧ x < 256) : ∀ x ∈ a ++ b, 0 ≤ x ∧ x < 256 := fun x hx => (List.mem_append.1 hx).elim (ha x) (hb x)
theorem fbyt_its {L : Its} (h : ∀ p ∈ L, p.1.length ≤ 16 ∧ okI p.2) : ∀ x ∈ itsQ L, 0 ≤ x ∧ x < 256 := by
  intro x hx
  unfold itsQ at hx
  obtain ⟨p, hp, hx⟩ := List.mem_flatMap.1 hx
  refine fbyt_app ?_ (fun y hy => numB_mem (h p hp).2 hy) x hx
  unfold textB
  exact fbyt_app (fun y hy => numB_mem (by have := (h p hp).1; unfold okI; omega) hy) (sB_byt p.1)
theorem BEok.items {b : BE} (h : BEok b) : b.its.length ≤ 16 ∧ ∀ p ∈ b.its, p.1.length ≤ 16 ∧ okI p.2 := by
  have hm := h.may
  unfold mayL at hm
  simp only [Bool.and_eq_true, decide_eq_true_eq] at hm
  refine ⟨hm.2, fun p hp => ?_⟩
  obtain ⟨h1, h2, h3⟩ := itsOk_all hm.1 p hp
  have := mayI_iff.1 h3
  exact ⟨goodB_len h1, by unfold okI; omega⟩
/-- A bin's bytes; a floor's. -/
def binB (b : BE) : List Int := numB b.nu ++ numB b.zo ++ numB b.ro ++ (numB (b.its.length : Int) ++ itsQ b.its)
def packE (L : List BE) : List Int := numB (L.length : Int) ++ L.flatMap binB
theorem binB_len {b : BE} (h : BEok b) : (binB b).length ≤ 600 := by
  obtain ⟨h1, h2⟩ := h.items
  have := itsQ_len h2
  have := (numB_len (n := b.nu) (by have := h.nu; unfold okI; omega)).2
  have := (numB_len (n := b.zo) (by have := h.zo; unfold okI; omega)).2
  have := (numB_len (n := b.ro) (by have := h.ro; unfold okI; omega)).2
  have := (numB_len (n := (b.its.length : Int)) (by unfold okI; omega)).2
  unfold binB
  simp only [List.length_append]
  omega
theorem binsB_len : ∀ {L : List BE}, (∀ b ∈ L, BEok b) → (L.flatMap binB).length ≤ 600 * L.length
  | [], _ => by simp
  | b :: r, h => by
    have := binsB_len (L := r) (fun x hx => h x (List.mem_cons_of_mem _ hx))
    have := binB_len (h b List.mem_cons_self)
    rw [List.flatMap_cons, List.length_append, List.length_cons]
    omega
theorem binB_byt {b : BE} (h : BEok b) : ∀ x ∈ binB b, 0 ≤ x ∧ x < 256 := by
  obtain ⟨h1, h2⟩ := h.items
  unfold binB
  exact fbyt_app (fbyt_app (fbyt_app (fun y hy => numB_mem (by have := h.nu; unfold okI; omega) hy) (fun y hy => numB_mem (by have := h.zo; unfold okI; omega) hy)) (fun y hy => numB_mem (by have := h.ro; unfold okI; omega) hy)) (fbyt_app (fun y hy => numB_mem (by unfold okI; omega) hy) (fbyt_its h2))
theorem packE_byt {L : List BE} (hL : L.length ≤ 1000) (h : ∀ b ∈ L, BEok b) : ∀ x ∈ packE L, 0 ≤ x ∧ x < 256 := by
  unfold packE
  refine fbyt_app (fun y hy => numB_mem (by unfold okI; omega) hy) (fun x hx => ?_)
  obtain ⟨b, hb, hx⟩ := List.mem_flatMap.1 hx
  exact binB_byt (h b hb) x hx
theorem frow_base {w : World} {b b' : Nat} {t : TypeId} {sz n : Nat} {v : Value} {xs : List Value} (h : w.ownsRow b t sz v n xs) (hb : b' ≤ b) : w.ownsRow b' t sz v n xs := by
  refine ⟨h.1, ?_⟩
  rcases h.2 with h0 | ⟨g', cap, cur, e, hg, rest⟩
  · exact .inl h0
  · exact .inr ⟨g', cap, cur, e, Nat.le_trans hb hg, rest⟩
structure PkI (w W : World) (gm : Nat) (TM : Nat → Prop) (bs : List Int) : Prop where
  mkr : MK W gm TM bs false
  new : ∀ b, TM b → w.heap.size ≤ b
  fr : Fr (fun _ => False) w W
theorem PkI.step {w W W' : World} {gm : Nat} {TM TM' : Nat → Prop} {bs bs' : List Int} (h : PkI w W gm TM bs) (hm : MK W' gm TM' bs' false) (hs : Stp TM W W' TM') : PkI w W' gm TM' bs' :=
  ⟨hm, fun b hb => (hs.2 b hb).elim (h.new b) (fun e => Nat.le_trans h.fr.size e), h.fr.trans' hs.1 (fun b hb e => by have := h.new b e; omega)⟩
theorem PkI.keep {w W W' : World} {gm : Nat} {TM : Nat → Prop} {bs : List Int} (h : PkI w W gm TM bs) (hf : Fr (fun _ => False) W W') : PkI w W' gm TM bs := ⟨h.mkr.fr hf (fun _ _ e => e), h.new, h.fr.trans hf⟩
set_option maxRecDepth 100000 in
set_option maxHeartbeats 8000000 in
theorem bPack (w : World) (g : Nat) (L : List BV) (h : Fl w g L) (hL : 0 < L.length) (hL2 : L.length ≤ 64) (hok : ∀ x ∈ L.map BV.e, BEok x) :
    Calls Tryz.prog 10 #[.pointer (some ⟨g, 0, none⟩)] w fun e w' => ∃ v, e = .returned v ∧ w'.ownsRow w.heap.size 5 1 v (packE (L.map BV.e)).length (u8s (packE (L.map BV.e))) ∧ Fr (fun _ => False) w w' := by
  have hm := Lib.hid (bMade w g L h hL)
  have HH := Lib.hid h
  obtain ⟨a, c, q1, q2⟩ := h
  have hNI := q2.len
  have hbyt := Lib.hid (packE_byt (by rw [List.length_map]; omega) hok)
  have HOK := Lib.hid hok
  obtain ⟨N, hN⟩ : ∃ N, L.length = N := ⟨_, rfl⟩
  have HN := Lib.hid hN
  have HN64 := Lib.hid hL2
  rw [hN] at q1 q2 hNI
  have c0 := cell_obj q1 0 (.slice a N c) rfl
  have HQ1 := Lib.hid q1
  have HQ2 := Lib.hid q2
  have okN : Hid (okI (N : Int)) := Lib.hid (by unfold okI; omega)
  obtain ⟨n0, hn0⟩ : ∃ n0, w.heap.size = n0 := ⟨_, rfl⟩
  have HS := Lib.hid hn0
  clear q1 q2 hN hL hL2 hok hn0
  go_enter Tryz.func10, Tryz.ntmps10
  go_wp2_with (go_at_call 34; refine hm.out.mono ?_; rintro e w1 ⟨rfl, rfl⟩)
  go_region_held3 (fun w' => w'.cell? ⟨g, 0, none⟩ = some (.slice a N c)) (first | exact c0 | exact HP.out.fr.cell (cell_obj HQ1.out 0 (.slice a N c) rfl) (fun e => e))
    (first
      | (go_at_call 35; refine (xMN _).mono ?_; rintro e w2 ⟨gm, TM, rfl, hM2, hT2, hf2⟩; have HP := Lib.hid (PkI.mk hM2 hT2 hf2); clear hM2 hT2 hf2)
      | (go_at_call 36; refine (mNum _ HP.out.mkr okN.out (by simp)).mono ?_; rintro e w3 ⟨rfl, TM3, hM3, hs3⟩; have HP := Lib.hid (HP.out.step hM3 hs3); clear hM3 hs3))
  have c0' := HP.out.fr.cell (cell_obj HQ1.out 0 (.slice a N c) rfl) (fun e => e)
  rw [List.nil_append] at HP
  have HP : Hid (PkI w w3 gm TM3 (numB (N : Int))) := Lib.hid ⟨HP.out.mkr, HP.out.new, (Fr.refl (fun _ => False) w).drew.trans HP.out.fr⟩
  clear c0
  go_wp2_with fail
  go_loopw [23] (fun vi wr => ∃ (k : Nat) (TMk : Nat → Prop), k ≤ N ∧ vi = .int .i64 k ∧ PkI w wr gm TMk (numB (N : Int) ++ ((L.map BV.e).take k).flatMap binB)) (fun vi _ => N - (intOf vi).toNat)
  case atStart => exact ⟨0, TM3, Nat.zero_le _, rfl, by simpa using HP.out⟩
  case round =>
    obtain ⟨k, TMk, hk, rfl, hP⟩ := hrel
    have HP := Lib.hid hP
    by_cases hlt : k < N
    · obtain ⟨x, hx⟩ : ∃ x, L[k]? = some x := ⟨L[k]'(by rw [HN.out]; exact hlt), List.getElem?_eq_getElem _⟩
      obtain ⟨ad, rfl, hok, z0, zs⟩ := (HQ2.out.fr0 bokKeeps hP.fr).at_ hx
      have hkI : (k : Int) < N := by omega
      have hbe : BEok x.e := HOK.out x.e (List.mem_map.2 ⟨x, List.mem_of_getElem? hx, rfl⟩)
      have hitm := hbe.items
      obtain ⟨la, lc, hl⟩ := hok.l.sl
      have hob := hok.l.lt
      have hil := hok.l
      have x0 := z0 (.int .i64 x.nu) rfl
      have x1 := zs 0 (.int .i64 x.zo) rfl
      have x2 := zs 1 (.int .i64 x.ro) rfl
      have x3 := zs 2 x.l rfl
      dsimp only [Nat.zero_add, Nat.reduceAdd] at x0 x1 x2 x3
      have hilw : Il w x.l x.its := (HQ2.out.okm (List.mem_of_getElem? hx)).l
      rw [hl] at x3 hil hilw
      have HILW := Lib.hid hilw; have HBE := Lib.hid hbe; have HITM := Lib.hid hitm
      have hlen : Hid ((numB (N : Int) ++ ((L.map BV.e).take k).flatMap binB).length ≤ 40000) := Lib.hid (by
        have h1 := binsB_len (L := (L.map BV.e).take k) (fun b hb => HOK.out b (List.mem_of_mem_take hb))
        have h2 : ((L.map BV.e).take k).length ≤ k := by rw [List.length_take]; omega
        have h3 := (numB_len okN.out).2
        have h4 := HN64.out
        rw [HN.out] at h4
        rw [List.length_append]; omega)
      have hnext : Hid ((numB (N : Int) ++ ((L.map BV.e).take (k + 1)).flatMap binB) = (numB (N : Int) ++ ((L.map BV.e).take k).flatMap binB) ++ binB x.e) := Lib.hid (by
        have : (L.map BV.e)[k]? = some x.e := by rw [List.getElem?_map, hx]; rfl
        rw [List.take_add_one, this, List.flatMap_append, List.append_assoc]
        simp)
      obtain ⟨bsk, hbsk⟩ : ∃ b, numB (N : Int) ++ ((L.map BV.e).take k).flatMap binB = b := ⟨_, rfl⟩
      rw [hbsk] at HP hlen hnext
      have oknu : Hid (okI x.nu) := Lib.hid (by have := hbe.nu; have e : x.e.nu = x.nu := rfl; unfold okI; omega)
      have okzo : Hid (okI x.zo) := Lib.hid (by have := hbe.zo; have e : x.e.zo = x.zo := rfl; unfold okI; omega)
      have okro : Hid (okI x.ro) := Lib.hid (by have := hbe.ro; have e : x.e.ro = x.ro := rfl; unfold okI; omega)
      clear hP hx hok z0 zs hl hob hil hilw hbe hitm hbsk c0'
      go_wp2_with fail
      obtain ⟨W5, hW5⟩ : ∃ W, wr.alloc (.cells #[.int .i64 x.nu, .int .i64 x.zo, .int .i64 x.ro, .slice la x.its.length lc] 64) = W := ⟨_, rfl⟩
      obtain ⟨m0, hm0⟩ : ∃ n, wr.heap.size = n := ⟨_, rfl⟩
      have hFW : Fr (fun _ => False) wr W5 := by rw [← hW5]; exact (Fr.refl _ wr).alloc _
      have hx5 : W5.heap[m0]? = some (.cells #[.int .i64 x.nu, .int .i64 x.zo, .int .i64 x.ro, .slice la x.its.length lc] 64) := by rw [← hW5]; exact heap_at hm0.symm _
      rw [hW5, hm0]
      have HNB : Hid (¬ TMk m0) := Lib.hid (fun e => by have := HP.out.mkr.lt _ e; omega)
      have HP := Lib.hid (HP.out.keep hFW.drew)
      have HX5 : Hid (W5.drew.heap[m0]? = some (.cells #[.int .i64 x.nu, .int .i64 x.zo, .int .i64 x.ro, .slice la x.its.length lc] 64)) := Lib.hid hx5
      have hfacts : Hid (∀ W : World, W.heap[m0]? = some (.cells #[.int .i64 x.nu, .int .i64 x.zo, .int .i64 x.ro, .slice la x.its.length lc] 64) → W.cell? ⟨m0, 0, none⟩ = some (.int .i64 x.nu) ∧ W.cell? ⟨m0, 1, none⟩ = some (.int .i64 x.zo) ∧ W.cell? ⟨m0, 2, none⟩ = some (.int .i64 x.ro) ∧ W.cell? ⟨m0, 3, none⟩ = some (.slice la x.its.length lc)) := Lib.hid (fun W hb => ⟨cell_obj hb 0 _ rfl, cell_obj hb 1 _ rfl, cell_obj hb 2 _ rfl, cell_obj hb 3 _ rfl⟩)
      have hT : Hid (∀ (W : World) TM bs, PkI w W gm TM bs → x.its ≠ [] → ∀ b, (Value.slice la x.its.length lc).ownBlock = some b → ¬ TM b) := Lib.hid (fun W TM bs hp hne b hb e => by
        have := HILW.out.lt hne b hb; have := hp.new b e; omega)
      clear x0 x1 x2 x3 hW5 hm0 hx5 hFW
      go_region_held3 (fun w' => w'.cell? ⟨m0, 0, none⟩ = some (.int .i64 x.nu) ∧ w'.cell? ⟨m0, 1, none⟩ = some (.int .i64 x.zo) ∧ w'.cell? ⟨m0, 2, none⟩ = some (.int .i64 x.ro) ∧ w'.cell? ⟨m0, 3, none⟩ = some (.slice la x.its.length lc)) (exact hfacts.out _ HX5.out)
        (first
          | (go_at_call 36; refine (mNum _ HP.out.mkr (by first | exact oknu.out | exact okzo.out | exact okro.out) (by have := hlen.out; have := (numB_len oknu.out).2; have := (numB_len okzo.out).2; have := (numB_len okro.out).2; (try simp only [List.length_append]); omega)).mono ?_; rintro e w3 ⟨rfl, TMn, hM3, hs3⟩; have hNBn : Hid (¬ TMn m0) := Lib.hid (fun e => (hs3.2 _ e).elim HNB.out (fun e => absurd (Array.getElem?_eq_some_iff.1 HX5.out).1 (Nat.not_lt.2 e))); have HX5 := Lib.hid (hs3.1.at_ HX5.out HNB.out); have HNB := hNBn; have HP := Lib.hid (HP.out.step hM3 hs3); clear hM3 hs3)
          | (go_at_call 37; refine (iPut _ gm _ _ _ x.its HP.out.mkr (by have := hlen.out; have := (numB_len oknu.out).2; have := (numB_len okzo.out).2; have := (numB_len okro.out).2; (try simp only [List.length_append]); omega) (HILW.out.fr HP.out.fr (fun _ e => e.elim)) (hT.out _ _ _ HP.out) HITM.out.1 HITM.out.2).mono ?_; rintro e w3 ⟨rfl, TMn, hM3, hs3⟩; have hNBn : Hid (¬ TMn m0) := Lib.hid (fun e => (hs3.2 _ e).elim HNB.out (fun e => absurd (Array.getElem?_eq_some_iff.1 HX5.out).1 (Nat.not_lt.2 e))); have HX5 := Lib.hid (hs3.1.at_ HX5.out HNB.out); have HNB := hNBn; have HP := Lib.hid (HP.out.step hM3 hs3); clear hM3 hs3))
      go_wp2_with fail
      go_roundw
      case rel =>
        refine ⟨k + 1, TMn, by omega, by go_num, ?_⟩
        have := HP.out
        rw [hnext.out]
        have e : bsk ++ binB x.e = bsk ++ numB x.nu ++ numB x.zo ++ numB x.ro ++ (numB (x.its.length : Int) ++ itsQ x.its) := by
          have : binB x.e = numB x.nu ++ numB x.zo ++ numB x.ro ++ (numB (x.its.length : Int) ++ itsQ x.its) := rfl
          rw [this]
          simp only [List.append_assoc]
        rw [e]
        exact this
      case measure => simp [intOf]; omega
    · obtain rfl : k = N := by omega
      have hkI : ¬ (k : Int) < k := by omega
      have hfin : Hid (numB (k : Int) ++ ((L.map BV.e).take k).flatMap binB = packE (L.map BV.e)) := Lib.hid (by unfold packE; rw [List.take_of_length_le (by rw [List.length_map, HN.out]; exact Nat.le_refl _), List.length_map, HN.out])
      rw [hfin.out] at HP
      clear hP
      go_wp2_with (go_at_call 38; refine (cMDone _ gm TMk _ false HP.out.mkr hbyt.out).mono ?_; rintro e w4 ⟨hb4, v4, rfl, ho4⟩; have HB4 := Lib.hid hb4; have HO4 := Lib.hid ho4; clear hb4 ho4)
      go_ret
      exact ⟨v4, rfl, frow_base HO4.out HP.out.fr.size, HP.out.fr.trans (Fr.below HB4.out)⟩
end Go.Proofs.YtefjdcghdcbojaaGreat

