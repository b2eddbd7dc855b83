/- ident.Table.Pack: the walk. -/
import Derived.Test.YtakjiicnbocjeaaIdDoesM2
import Derived.Test.YtakjiicnbocjeaaIdDoesM12
namespace Go.Proofs.Ytakjiicnbocjeaa
open Go.RowKit Go.Maps
def rowsC (R : Rows) : List (List Int) := R.flatMap fun q => rowCs q.1 q.2
def cliC (p : Int × (Int × Rows)) : List (List Int) := [numB p.1, numB p.2.1, numB p.2.2.length] ++ rowsC p.2.2
def tabC (A : Tbl) : List (List Int) := numB A.length :: A.flatMap cliC
/-- What a table may hold. -/
structure TOk (A : Tbl) : Prop where
  keys : ∀ p ∈ A, isCl p.1 = true
  marks : ∀ p ∈ A, 1 ≤ p.2.1 ∧ p.2.1 ≤ 4294967297
  lens : ∀ p ∈ A, p.2.2.length ≤ 128
  nums : ∀ p ∈ A, ∀ q ∈ p.2.2, isNu q.1 = true
  rows : ∀ p ∈ A, ∀ q ∈ p.2.2, RowOk q.2 ∧ 0 ≤ q.2.a.code ∧ q.2.a.code ≤ 1000
theorem mkAll_app (s : Mst) (a b : List (List Int)) : mkAll s (a ++ b) = mkAll (mkAll s a) b := by simp [mkAll]
theorem mkP_mem {s : Mst} {c : List Int} (hs : ∀ x ∈ s.1, 0 ≤ x ∧ x < 256) (hc : ∀ x ∈ c, 0 ≤ x ∧ x < 256) : ∀ x ∈ (mkP s c).1, 0 ≤ x ∧ x < 256 := by
  intro x hx
  unfold mkP putB at hx
  dsimp only at hx
  split at hx
  · exact hs x hx
  · rcases List.mem_append.1 hx with hx | hx
    · exact hs x hx
    · exact hc x hx
theorem mkAll_mem : ∀ {cs : List (List Int)} {s : Mst}, (∀ x ∈ s.1, 0 ≤ x ∧ x < 256) → (∀ c ∈ cs, ∀ x ∈ c, 0 ≤ x ∧ x < 256) → ∀ x ∈ (mkAll s cs).1, 0 ≤ x ∧ x < 256
  | [], _, hs, _ => hs
  | c :: r, s, hs, hc => mkAll_mem (cs := r) (s := mkP s c) (mkP_mem hs (hc c (by simp))) (fun d hd => hc d (by simp [hd]))
theorem okCl {c : Int} (h : isCl c = true) : okI c := by unfold isCl at h; unfold okI; simp at h; omega
theorem okNu {c : Int} (h : isNu c = true) : okI c := by unfold isNu at h; unfold okI; simp at h; omega
theorem okLen {k : Nat} (h : k ≤ 128) : okI (k : Int) := by unfold okI; omega
set_option maxRecDepth 100000 in
theorem okHi {x : Int} (h0 : 0 ≤ x) (h1 : x < 18446744073709551616) : okI (x / 4294967296) := by unfold okI; omega
set_option maxRecDepth 100000 in
theorem okLo {x : Int} (h : 0 ≤ x ∧ x ≤ 4294967295) : okI x := by unfold okI; omega
set_option maxRecDepth 100000 in
theorem okMk {x : Int} (h : 1 ≤ x ∧ x ≤ 4294967297) : okI x := by unfold okI; omega
set_option maxRecDepth 100000 in
theorem rowCs_mem {n : Int} {r : RowV} (hn : okI n) (hr : RowOk r) : ∀ c ∈ rowCs n r, ∀ x ∈ c, 0 ≤ x ∧ x < 256 := by
  have h1 := and32 hr.mix0 hr.mix1
  have m0 := hr.mix0; have m1 := hr.mix1
  intro c hc x hx
  unfold rowCs at hc
  rcases List.mem_append.1 hc with hc | hc
  · simp only [List.mem_cons, List.not_mem_nil, or_false] at hc
    rcases hc with rfl | rfl | rfl | rfl
    · exact numB_mem hn hx
    · exact numB_mem (okHi m0 m1) hx
    · exact numB_mem (okLo h1) hx
    · cases r.done <;> simp at hx <;> omega
  · split at hc
    · simp only [List.mem_cons, List.not_mem_nil, or_false] at hc
      rcases hc with rfl | rfl
      · exact numB_mem hr.code hx
      · exact numB_mem hr.k hx
    · cases hc
set_option maxRecDepth 100000 in
theorem tabC_mem {A : Tbl} (h : TOk A) (h64 : A.length ≤ 64) : ∀ c ∈ tabC A, ∀ x ∈ c, 0 ≤ x ∧ x < 256 := by
  intro c hc x hx
  rcases List.mem_cons.1 hc with rfl | hc
  · exact numB_mem (okLen (by omega)) hx
  · obtain ⟨p, hp, hc⟩ := List.mem_flatMap.1 hc
    rcases List.mem_append.1 hc with hc | hc
    · simp only [List.mem_cons, List.not_mem_nil, or_false] at hc
      have := h.marks p hp
      rcases hc with rfl | rfl | rfl
      · exact numB_mem (okCl (h.keys p hp)) hx
      · exact numB_mem (okMk this) hx
      · exact numB_mem (okLen (h.lens p hp)) hx
    · obtain ⟨q, hq, hc⟩ := List.mem_flatMap.1 hc
      exact rowCs_mem (okNu (h.nums p hp q hq)) (h.rows p hp q hq).1 c hc x hx
theorem xMNew (w : World) : Calls Try.prog 33 #[] w fun e w' => ∃ gm TS, e = .returned (.pointer (some ⟨gm, 0, none⟩)) ∧ MK w' gm TS [] false ∧ (∀ b, TS b → w.heap.size ≤ b) ∧ Fr (fun _ => False) w w' := by
  refine (cMNew w).mono ?_
  rintro e w' ⟨rfl, h1, h2⟩
  exact ⟨_, _, rfl, h1, fun b hb => by omega, h2⟩
/-- On the way of a maker: it says s, owns TS (behind w0 and TS0), and block rb is as it was. -/
structure PkI (w0 : World) (TS0 : Nat → Prop) (B rb : Nat) (o : Obj) (g : Nat) (TS : Nat → Prop) (w : World) (s : Mst) : Prop where
  mkr : MK w g TS s.1 s.2
  stp : Stp TS0 w0 w TS
  box : w.heap[rb]? = some o
  nb : ¬ TS rb
  low : ∀ b, TS b → B ≤ b
theorem PkI.step {w0 w w' : World} {TS0 TS TS' : Nat → Prop} {B rb g : Nat} {o : Obj} {s s' : Mst} (h : PkI w0 TS0 B rb o g TS w s) (hm : MK w' g TS' s'.1 s'.2) (hs : Stp TS w w' TS') (hB : B ≤ w.heap.size) : PkI w0 TS0 B rb o g TS' w' s' :=
  ⟨hm, h.stp.trans hs, hs.1.at_ h.box h.nb, fun e => (hs.2 _ e).elim h.nb (fun e => absurd (Array.getElem?_eq_some_iff.1 h.box).1 (Nat.not_lt.2 e)), hs.low h.low hB⟩
theorem PkI.num {w0 w w' : World} {TS0 TS TS' : Nat → Prop} {B rb g : Nat} {o : Obj} {s : Mst} {c : List Int} (h : PkI w0 TS0 B rb o g TS w s) (hm : MK w' g TS' (putB s.1 s.2 c) (putL s.1 s.2 c)) (hs : Stp TS w w' TS') (hB : B ≤ w.heap.size) : PkI w0 TS0 B rb o g TS' w' (mkP s c) := h.step (s' := mkP s c) hm hs hB
theorem PkI.drew {w0 w : World} {TS0 TS : Nat → Prop} {B rb g : Nat} {o : Obj} {s : Mst} (h : PkI w0 TS0 B rb o g TS w s) : PkI w0 TS0 B rb o g TS w.drew s :=
  ⟨h.mkr.fr (Fr.refl (fun _ => False) w).drew (fun _ _ h => h), h.stp.trans (Stp.refl (Fr.refl _ _).drew), h.box, h.nb, h.low⟩
theorem PkI.size {w0 w : World} {TS0 TS : Nat → Prop} {B rb g : Nat} {o : Obj} {s : Mst} (h : PkI w0 TS0 B rb o g TS w s) : w0.heap.size ≤ w.heap.size := h.stp.1.size
theorem Tab.below' {w w' : World} {g m : Nat} {l : List (Int × Cl)} {TS : Nat → Prop} (h : Tab w g m l) {B : Nat} (hB : g < B ∧ m < B ∧ ∀ p ∈ l, p.2.b < B) (hf : Fr TS w w') (hT : ∀ b, TS b → B ≤ b) : Tab w' g m l :=
  h.fr hf (fun e => by have := hT _ e; omega) (fun e => by have := hT _ e; omega) (fun p hp e => by have := hT _ e; have := hB.2.2 p hp; omega)
set_option maxRecDepth 100000 in
set_option maxHeartbeats 8000000 in
theorem iPack (w : World) (g m : Nat) (l : List (Int × Cl)) (h : Tab w g m l) (h64 : l.length ≤ 64) (hk : TOk (absl l)) :
    Calls Try.prog 17 #[.pointer (some ⟨g, 0, none⟩)] w fun e w' =>
      Below w.heap.size w w' ∧ ∃ v, e = .returned v ∧ w'.ownsRow w.heap.size 5 1 v (if (mkAll ([], false) (tabC (absl l))).2 then [] else (mkAll ([], false) (tabC (absl l))).1).length (u8s (if (mkAll ([], false) (tabC (absl l))).2 then [] else (mkAll ([], false) (tabC (absl l))).1)) := by
  have HT := Lib.hid h; have HK := Lib.hid hk
  have hcT := h.cell
  have hlen := h.map.len Try.underlying61 3
  have h0m := h.map
  obtain ⟨A, hA⟩ : ∃ A, absl l = A := ⟨_, rfl⟩
  rw [hA]
  have HA := Lib.hid hA
  have hby : ∀ x ∈ (mkAll ([], false) (tabC A)).1, 0 ≤ x ∧ x < 256 := mkAll_mem (fun x hx => by cases hx) (tabC_mem (by rw [← hA]; exact hk) (by rw [← hA]; simpa [absl] using h64))
  obtain ⟨sF, hsF⟩ : ∃ sF, mkAll ([], false) (tabC A) = sF := ⟨_, rfl⟩
  rw [hsF] at hby ⊢
  obtain ⟨R, hRF⟩ : ∃ R, (if sF.2 = true then [] else sF.1) = R := ⟨_, rfl⟩
  rw [hRF]
  have HSF := Lib.hid hsF; have HRF := Lib.hid hRF; have HBY := Lib.hid hby
  clear h hk hA hsF hRF hby
  go_enter Try.func17, Try.ntmps17
  go_wp2_with (first
    | (go_at_call 24; refine (imade _ g m hcT).mono ?_; rintro e w1 ⟨rfl, rfl⟩))
  have hlen0 := h0m.drew.len Try.underlying61 3
  clear hlen h0m
  have hBl : Hid (g < w.heap.size ∧ m < w.heap.size ∧ ∀ p ∈ l, p.2.b < w.heap.size) := Lib.hid ⟨HT.out.glt, HT.out.map.lt, fun p hp => (HT.out.rows p hp).lt⟩
  obtain ⟨B, hB⟩ : ∃ B, w.heap.size = B := ⟨_, rfl⟩
  have HB := Lib.hid hB
  rw [hB] at hBl
  clear hB
  go_region_held3 (fun w' => w'.cell? ⟨g, 0, none⟩ = some (.map (some m)) ∧ (Builtin.len_ #[61] 3 #[.map (some m)]).run Try.prog w' = .ok (.int .i64 l.length) w') (first | exact ⟨hcT, hlen0⟩ | exact ⟨hT1.out.cell, hT1.out.map.len Try.underlying61 3⟩)
    (first
      | (go_at_call 33; refine (xMNew _).mono ?_; rintro e w1 ⟨gm, TS, rfl, hM0, hTS, hF0⟩; have HF : Hid (Fr (fun _ => False) w w1) := Lib.hid ((Fr.refl _ w).drew.trans hF0); have hTS : Hid (∀ b, TS b → B ≤ b) := Lib.hid (by rw [← HB.out]; exact hTS); have hM := Lib.hid hM0; have hT1 := Lib.hid (HT.out.fr HF.out (fun h => h) (fun h => h) (fun _ _ h => h)); have hlen := hT1.out.map.len Try.underlying61 3; clear hM0 hF0)
      | (go_at_call 34; refine (cMNum _ _ _ _ _ _ hM.out ⟨by omega, by omega⟩).mono ?_; clear hlen; rintro e w2 ⟨rfl, TS1, hM1, hS1⟩; have hT1 := Lib.hid (hT1.out.below' hBl.out hS1.1 hTS.out); have hTS' := Lib.hid (hS1.low hTS.out (by rw [← HB.out]; exact HF.out.size)); have HF := Lib.hid (((HF.out.mono (S' := TS) (fun _ _ h => h.elim)).trans hS1.1).mono (S' := fun b => B ≤ b) (fun b _ e => hTS.out b e)); have hTS := hTS'; clear hTS'; have hM := Lib.hid hM1; clear hM1 hS1))
  obtain ⟨s0, hs0⟩ : ∃ s0, mkAll ([], false) [numB l.length] = s0 := ⟨_, rfl⟩
  have hM : Hid (MK w2 gm TS1 s0.1 s0.2) := Lib.hid (by rw [← hs0]; exact hM.out)
  have HS0 := Lib.hid hs0
  have hcT := hT1.out.cell
  have hord := Lib.hid (iOrderC w2 m Cl.enc l hT1.out.map (by omega))
  clear hs0
  go_wp2_with (go_at_call 35; refine hord.out.mono ?_; rintro e w1 ⟨v, rfl, hown, hb⟩; obtain ⟨a, c, rfl⟩ := row_slice hown)
  have hAl : A.length = l.length := by rw [← HA.out]; simp [absl]
  have hAg : ∀ (k : Nat) (p : Int × Cl), l[k]? = some p → A[k]? = some (p.1, (p.2.mark, p.2.rows)) := fun k p hp => by rw [← HA.out]; simp [absl, hp]
  have HAL := Lib.hid hAl; have HAG := Lib.hid hAg; have HO := Lib.hid hown; have HB1 := Lib.hid hb
  have hM1 := Lib.hid (hM.out.fr (Fr.below (S := fun _ => False) hb) (fun _ _ h => h))
  have hT2 := Lib.hid (hT1.out.fr (Fr.below (S := fun _ => False) hb) (fun h => h) (fun h => h) (fun _ _ h => h))
  have hFw := Lib.hid (HF.out.trans' (Fr.below (S := fun _ => False) hb) (fun b _ e => e.elim))
  have hN1 : Hid (∀ b, w2.heap.size ≤ b → ¬ TS1 b) := Lib.hid (fun b hb e => by have := hM.out.lt b e; omega)
  clear hord hown hb hcT hAl hAg
  go_loopw [27] (fun i wr => ∃ (k : Nat) (TS2 : Nat → Prop), k ≤ l.length ∧ i = .int .i64 k ∧ MK wr gm TS2 (mkAll s0 ((A.take k).flatMap cliC)).1 (mkAll s0 ((A.take k).flatMap cliC)).2 ∧ Stp TS1 w1 wr TS2) (fun i _ => l.length - (intOf i).toNat)
  case atStart => exact ⟨0, TS1, Nat.zero_le _, rfl, hM1.out, Stp.refl (Fr.refl _ _)⟩
  case round =>
    obtain ⟨k, TS2, hk, rfl, hMr, hsr⟩ := hrel
    by_cases hlt : k < l.length
    · obtain ⟨p, hp⟩ : ∃ p, l[k]? = some p := ⟨l[k], List.getElem?_eq_getElem hlt⟩
      have hmem : p ∈ l := List.mem_of_getElem? hp
      obtain ⟨g', rfl, hg1, hg2⟩ := row_addr HO.out (by omega)
      have hTr := hT2.out.below' hBl.out hsr.1 hTS.out
      have hgr := hTr.cell
      have hownr := hsr.1.row HO.out (fun b e => by obtain rfl : g' = b := (by simpa [Value.ownBlock] using e); exact hN1.out _ hg1)
      have hcx : wr.cell? ⟨g', k, none⟩ = some (.int .i64 p.1) := by
        have := hownr.cellAt (g := g') (j := k) (by simpa using hlt)
        rw [this]; simp [hp]
      have hlk : (Instr.lookup 61 (.map (some m)) (.int .i64 p.1) false).run Try.prog wr = .ok p.2.enc wr := by
        have := hTr.map.look idK Try.underlying61 (zeroCl wr) ((hTr.map.ok idK).1 p hmem)
        rw [getS_of (v := p.2) (mp_nd hTr.map) hmem] at this
        exact this
      have hlk2 : (Instr.lookup 61 (.map (some m)) (.int .i64 p.1) false).run Try.prog wr = .ok (.agg #[.int .i64 p.2.mark, .map (some p.2.b)]) wr := hlk
      have HM := Lib.hid hmem; have HP := Lib.hid hp; have hMK := Lib.hid hMr; have HSR := Lib.hid hsr; have HTr := Lib.hid hTr
      clear hlk hmem hp hMr hsr hTr hownr
      go_wp2_with fail
      have hPK0 : PkI wr TS2 B wr.heap.size (.cells #[.int .i64 p.2.mark, .map (some p.2.b)] 68) gm TS2 (wr.alloc (.cells #[.int .i64 p.2.mark, .map (some p.2.b)] 68)) (mkAll s0 ((A.take k).flatMap cliC)) :=
        ⟨hMK.out.fr ((Fr.refl (fun _ => False) _).alloc _) (fun _ _ h => h), Stp.refl ((Fr.refl _ _).alloc _), heap_new _ _, fun e => by have := hMK.out.lt _ e; omega, HSR.out.low hTS.out (by have := HB.out; have := hFw.out.size; omega)⟩
      have hRW : Mp Try.prog (wr.alloc (.cells #[.int .i64 p.2.mark, .map (some p.2.b)] 68)) 3 ktI RowV.enc p.2.b p.2.rows := (HTr.out.rows p HM.out).alloc _
      have hBW : B ≤ wr.heap.size := by have := HB.out; have := hFw.out.size; have := HSR.out.1.size; omega
      obtain ⟨rb, hrb⟩ : ∃ rb, wr.heap.size = rb := ⟨_, rfl⟩
      rw [hrb] at hPK0 hBW ⊢
      obtain ⟨Wa, hWa⟩ : ∃ Wa, wr.alloc (.cells #[.int .i64 p.2.mark, .map (some p.2.b)] 68) = Wa := ⟨_, rfl⟩
      rw [hWa] at hPK0 hRW ⊢
      obtain ⟨s1, hs1⟩ : ∃ s1, mkAll s0 ((A.take k).flatMap cliC) = s1 := ⟨_, rfl⟩
      have hS1 := Lib.hid hs1
      rw [hs1] at hPK0
      clear hs1
      have hRB := Lib.hid hrb; have hBW := Lib.hid hBW
      have hPK := Lib.hid hPK0.drew
      have hR := Lib.hid hRW.drew
      have hmp : Hid (A[k]? = some (p.1, (p.2.mark, p.2.rows))) := Lib.hid (HAG.out k p HP.out)
      have hmA : (p.1, (p.2.mark, p.2.rows)) ∈ absl l := by rw [HA.out]; exact List.mem_of_getElem? hmp.out
      have hk1 := Lib.hid (HK.out.keys _ hmA)
      have hk2 := Lib.hid (HK.out.marks _ hmA)
      have hk3 := HK.out.lens _ hmA
      have hk4 := Lib.hid (HK.out.rows _ hmA)
      have hk5 := Lib.hid (HK.out.nums _ hmA)
      dsimp only at hk3
      have o1 : Hid (okI p.1) := Lib.hid (by have := hk1.out; unfold isCl at this; unfold okI; simp at this; omega)
      have o2 : Hid (okI p.2.mark) := Lib.hid (by have := hk2.out; unfold okI; dsimp only at this; omega)
      have o3 : Hid (okI (p.2.rows.length : Int)) := Lib.hid (by unfold okI; omega)
      have hnB : Hid (p.2.b < B) := Lib.hid (hBl.out.2.2 p HM.out)
      have p0 := cell_obj hPK0.box 0 (.int .i64 p.2.mark) rfl
      have p1 := cell_obj hPK0.box 1 (.map (some p.2.b)) rfl
      have hlen := hR.out.len Try.underlying66 3
      have hlen0 := hR.out.drew.len Try.underlying66 3
      clear hPK0 hRW hrb hWa hmA hcx hlk2 hgr
      go_region_held3 (fun w' => w'.cell? ⟨rb, 0, none⟩ = some (.int .i64 p.2.mark) ∧ w'.cell? ⟨rb, 1, none⟩ = some (.map (some p.2.b)) ∧ (Builtin.len_ #[66] 3 #[.map (some p.2.b)]).run Try.prog w' = .ok (.int .i64 p.2.rows.length) w') (first | exact ⟨p0, p1, hlen0⟩ | exact ⟨cell_obj hPK.out.box 0 (.int .i64 p.2.mark) rfl, cell_obj hPK.out.box 1 (.map (some p.2.b)) rfl, hR.out.len Try.underlying66 3⟩)
        (first | (go_at_call 34; refine (cMNum _ gm _ _ _ _ hPK.out.mkr (by first | exact o1.out | exact o2.out | exact o3.out)).mono ?_; rintro e w3 ⟨rfl, TS3, hMx, hsx⟩; have hR := Lib.hid (hsx.1.mp hR.out (fun e => by have := hPK.out.low _ e; have := hnB.out; omega)); have hPK := Lib.hid (hPK.out.num hMx hsx (Nat.le_trans hBW.out (by rw [← hRB.out]; exact hPK.out.size))); have hlen := hR.out.len Try.underlying66 3; clear hMx hsx))
      have hst : mkP (mkP (mkP s1 (numB p.1)) (numB p.2.mark)) (numB p.2.rows.length) = mkAll s1 [numB p.1, numB p.2.mark, numB p.2.rows.length] := rfl
      obtain ⟨s2, hs2⟩ : ∃ s2, mkP (mkP (mkP s1 (numB p.1)) (numB p.2.mark)) (numB p.2.rows.length) = s2 := ⟨_, rfl⟩
      have hPK : Hid (PkI wr TS2 B rb (.cells #[.int .i64 p.2.mark, .map (some p.2.b)] 68) gm TS3 w3 s2) := Lib.hid (by rw [← hs2]; exact hPK.out)
      have hS2 : Hid (mkAll s1 [numB p.1, numB p.2.mark, numB p.2.rows.length] = s2) := Lib.hid (hst ▸ hs2)
      have p1 := cell_obj hPK.out.box 1 (.map (some p.2.b)) rfl
      have hord := Lib.hid (iOrderR w3 p.2.b RowV.enc p.2.rows hR.out (by omega))
      clear hs2 hst p0
      go_wp2_with (go_at_call 36; refine hord.out.mono ?_; rintro e w4 ⟨v, rfl, hown4, hb4⟩; obtain ⟨a4, c4, rfl⟩ := row_slice hown4)
      have hPK4 := hPK.out
      have HO4 := Lib.hid hown4; have HB4 := Lib.hid hb4
      have hM4 := Lib.hid (hPK4.mkr.fr (Fr.below (S := fun _ => False) hb4) (fun _ _ h => h))
      have hR4 := Lib.hid ((Fr.below (S := fun _ => False) hb4).mp hR.out (fun h => h))
      have hb4x := Lib.hid ((Fr.below (S := fun _ => False) hb4).at_ hPK4.box (fun h => h))
      have hS4 := Lib.hid (hPK4.stp.trans (Stp.refl (Fr.below hb4)))
      have hN4 : Hid (∀ b, w3.heap.size ≤ b → ¬ TS3 b) := Lib.hid (fun b hb e => by have := hPK4.mkr.lt b e; omega)
      have hL4 : Hid (∀ b, TS3 b → B ≤ b) := Lib.hid hPK4.low
      have hNr : Hid (¬ TS3 rb) := Lib.hid hPK4.nb
      clear hPK4 hown4 hb4 hord hlen p1
      go_loopw [51] (fun i wr => ∃ (j : Nat) (TS4 : Nat → Prop), j ≤ p.2.rows.length ∧ i = .int .i64 j ∧ MK wr gm TS4 (mkAll s2 (rowsC (p.2.rows.take j))).1 (mkAll s2 (rowsC (p.2.rows.take j))).2 ∧ Stp TS3 w4 wr TS4) (fun i _ => p.2.rows.length - (intOf i).toNat)
      case atStart => exact ⟨0, TS3, Nat.zero_le _, rfl, hM4.out, Stp.refl (Fr.refl _ _)⟩
      case round =>
        obtain ⟨j, TS4, hj, rfl, hMj, hsj⟩ := hrel
        by_cases hlt2 : j < p.2.rows.length
        · obtain ⟨q, hq⟩ : ∃ q, p.2.rows[j]? = some q := ⟨p.2.rows[j], List.getElem?_eq_getElem hlt2⟩
          have hqm : q ∈ p.2.rows := List.mem_of_getElem? hq
          obtain ⟨g2, rfl, hg3, hg4⟩ := row_addr HO4.out (by omega)
          have hownq := hsj.1.row HO4.out (fun b e => by obtain rfl : g2 = b := (by simpa [Value.ownBlock] using e); exact hN4.out _ hg3)
          have hcx : wr.cell? ⟨g2, j, none⟩ = some (.int .i64 q.1) := by
            have := hownq.cellAt (g := g2) (j := j) (by simpa using hlt2)
            rw [this]; simp [hq]
          have hRq := hsj.1.mp hR4.out (fun e => by have := hL4.out _ e; have := hnB.out; omega)
          have p1 := cell_obj (hsj.1.at_ hb4x.out hNr.out) 1 (.map (some p.2.b)) rfl
          have hlk2 : (Instr.lookup 66 (.map (some p.2.b)) (.int .i64 q.1) false).run Try.prog wr = .ok (.agg #[.int .u64 q.2.mix, .bool q.2.done, .int .i64 q.2.a.c, .int .i64 q.2.a.n, .int .i64 q.2.a.code, .int .i64 q.2.a.k]) wr := by
            have := hRq.look idK Try.underlying66 (zeroRow wr) ((hRq.ok idK).1 q hqm)
            rw [getS_of (v := q.2) (mp_nd hRq) hqm] at this
            exact this
          have oq : Hid (okI q.1) := Lib.hid (by have := hk5.out q hqm; unfold isNu at this; unfold okI; simp at this; omega)
          have hput := Lib.hid (iPut wr gm TS4 _ q.1 q.2 hMj oq.out (hk4.out q hqm).1)
          have hse : mkAll (mkAll s2 (rowsC (p.2.rows.take j))) (rowCs q.1 q.2) = mkAll s2 (rowsC (p.2.rows.take (j + 1))) := by
            rw [← mkAll_app, List.take_add_one, hq]; simp [rowsC]
          rw [hse] at hput
          have HSJ := Lib.hid hsj
          clear hownq hRq hMj hsj hqm hq hse
          go_wp2_with (go_at_call 37; refine hput.out.mono ?_; rintro e w5 ⟨⟨v5, rfl⟩, TS5, hM5, hS5⟩)
          go_roundw
          case rel => exact ⟨j + 1, TS5, by omega, by go_num, hM5, HSJ.out.trans hS5⟩
          case measure => simp [intOf]; omega
        · have : j = p.2.rows.length := by omega
          subst this
          go_wp2_with fail
          go_roundw
          case rel =>
            refine ⟨k + 1, TS4, by omega, by go_num, ?_, HSR.out.trans (hS4.out.trans hsj)⟩
            have e : mkAll s0 ((A.take (k + 1)).flatMap cliC) = mkAll s2 (rowsC (p.2.rows.take p.2.rows.length)) := by
              rw [List.take_add_one, hmp.out, List.flatMap_append, mkAll_app, hS1.out, ← hS2.out, ← mkAll_app]
              simp [cliC]
            rw [e]; exact hMj
          case measure => simp [intOf]; omega
    · have : k = l.length := by omega
      subst this
      have hse : mkAll s0 ((A.take l.length).flatMap cliC) = mkAll ([], false) (tabC A) := by
        rw [← HAL.out, List.take_length, ← HS0.out, ← mkAll_app, ← HAL.out]; rfl
      rw [hse, HSF.out] at hMr
      clear hse
      have hdn := cMDone wr gm TS2 sF.1 sF.2 hMr HBY.out
      rw [HRF.out] at hdn
      generalize (if sF.2 = true then (3 : Int) else 0) = ec at hdn
      have HDN := Lib.hid hdn
      clear hdn
      go_wp2_with (go_at_call 38; refine HDN.out.mono ?_; rintro e w5 ⟨hb5, v5, rfl, hown5⟩)
      go_ret
      have h0 := HB.out
      have h1 : Fr (fun b => B ≤ b) w w5 := (hFw.out.trans' hsr.1 (fun b _ e => hTS.out b e)).trans' (Fr.below (S := fun _ => False) hb5) (fun b _ e => e.elim)
      exact ⟨h1.toBelow (fun b e => by omega) (Nat.le_refl _), v5, rfl, ownsRow_base_a hown5 (by have := hFw.out.size; have := hsr.1.size; omega)⟩
end Go.Proofs.Ytakjiicnbocjeaa
