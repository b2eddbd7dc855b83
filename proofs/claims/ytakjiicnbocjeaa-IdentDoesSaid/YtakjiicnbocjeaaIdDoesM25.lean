/- ident.Unpack: the walk. -/
import Derived.Test.YtakjiicnbocjeaaIdDoesM13
namespace Go.Proofs.Ytakjiicnbocjeaa
open Go.RowKit Go.Maps
/-- What the inner loop gives: k rows more, behind number before. -/
def rowsT : Nat → Tst → Int → Int → Rows → Option (Rows × Tst)
  | 0, t, _, _, acc => some (acc, t)
  | k + 1, t, c, before, acc => if (readT t c).1.1 ≤ before then none else rowsT k (readT t c).2 c (readT t c).1.1 (putS ktI.lt acc (readT t c).1.1 (readT t c).1.2)
def cliT : Nat → Tst → Int → Tbl → Option (Tbl × Tst)
  | 0, t, _, A => some (A, t)
  | k + 1, t, last, A =>
    let c := tk t 0 63
    let m := tk c.2 1 4294967297
    let n := tk m.2 0 128
    if c.1 ≤ last ∨ (m.1 ≤ 1 ∧ n.1 = 0) then none else
    match rowsT n.1.toNat n.2 c.1 (m.1 - 1) [] with
    | none => none
    | some R => cliT k R.2 c.1 (putS ktI.lt A c.1 (m.1, R.1))
/-- What any bytes are as a table. -/
def unpT (bs : List Int) : Option Tbl :=
  match cliT (tk (bs, false) 0 64).1.toNat (tk (bs, false) 0 64).2 (-1) [] with
  | none => none
  | some R => if doneT R.2.1 R.2.2 = 0 then some R.1 else none
structure UpI (w0 w : World) (gk : Nat) (TK0 : Nat → Prop) (gt gm : Nat) (l : List (Int × Cl)) (t : Tst) : Prop where
  tk : TK w gk TK0 t.1 t.2
  tab : Tab w gt gm l
  nt : ¬ TK0 gt ∧ ¬ TK0 gm ∧ ∀ p ∈ l, ¬ TK0 p.2.b
  new : w0.heap.size ≤ gt ∧ w0.heap.size ≤ gm ∧ (∀ p ∈ l, w0.heap.size ≤ p.2.b) ∧ ∀ b, TK0 b → w0.heap.size ≤ b
  fr : Fr (fun b => w0.heap.size ≤ b) w0 w
section
variable {w0 w w' : World} {gk gt gm : Nat} {TK0 : Nat → Prop} {l : List (Int × Cl)} {t t' : Tst}
theorem UpI.keep (h : UpI w0 w gk TK0 gt gm l t) (hf : Fr (fun _ => False) w w') : UpI w0 w' gk TK0 gt gm l t :=
  ⟨h.tk.fr hf (fun _ _ h => h), h.tab.fr hf (fun h => h) (fun h => h) (fun _ _ h => h), h.nt, h.new, h.fr.trans' hf (fun _ _ e => e.elim)⟩
theorem UpI.take (h : UpI w0 w gk TK0 gt gm l t) (ht : TK w' gk TK0 t'.1 t'.2) (hf : Fr TK0 w w') : UpI w0 w' gk TK0 gt gm l t' :=
  ⟨ht, h.tab.fr hf h.nt.1 h.nt.2.1 h.nt.2.2, h.nt, h.new, h.fr.trans' hf (fun b _ e => h.new.2.2.2 b e)⟩
theorem UpI.other (h : UpI w0 w gk TK0 gt gm l t) {S : Nat → Prop} (hf : Fr S w w') (h1 : ∀ b, S b → w0.heap.size ≤ b ∧ ¬ TK0 b ∧ b ≠ gt ∧ b ≠ gm ∧ ∀ p ∈ l, p.2.b ≠ b) : UpI w0 w' gk TK0 gt gm l t :=
  ⟨h.tk.fr hf (fun b hb e => (h1 b e).2.1 hb), h.tab.fr hf (fun e => (h1 _ e).2.2.1 rfl) (fun e => (h1 _ e).2.2.2.1 rfl) (fun p hp e => (h1 _ e).2.2.2.2 p hp rfl), h.nt, h.new, h.fr.trans' hf (fun b _ e => (h1 b e).1)⟩
end
theorem rowsT_succ (k : Nat) (t : Tst) (c before : Int) (acc : Rows) : rowsT (k + 1) t c before acc = if (readT t c).1.1 ≤ before then none else rowsT k (readT t c).2 c (readT t c).1.1 (putS ktI.lt acc (readT t c).1.1 (readT t c).1.2) := rfl
theorem readT_num (t : Tst) (c : Int) : (readT t c).1.1 = (tk t 1 4294967296).1 := by unfold readT; dsimp only; split <;> rfl
theorem readT_in (t : Tst) (c : Int) : 0 ≤ (readT t c).1.1 ∧ (readT t c).1.1 ≤ 4294967296 := by rw [readT_num]; exact tk_in1 t (by omega)
set_option maxRecDepth 100000 in
set_option maxHeartbeats 16000000 in
theorem iUnpack (w : World) (v : Value) (bs : List Int) (hb : Bs w v bs) (hl : (bs.length : Int) ≤ 140737488351232) (hby : ∀ x ∈ bs, 0 ≤ x ∧ x < 256) :
    Calls Try.prog 21 #[v] w fun e w' =>
      Below w.heap.size w w' ∧ ((unpT bs = none ∧ e = .returned (.tuple #[.pointer none, .int .i64 10])) ∨ ∃ A g TS, unpT bs = some A ∧ e = .returned (.tuple #[.pointer (some ⟨g, 0, none⟩), .int .i64 0]) ∧ TA w' g TS A ∧ ∀ b, TS b → w.heap.size ≤ b) := by
  have HC := Lib.hid (cTake w v bs hb hl hby)
  obtain ⟨U, hU⟩ : ∃ U, unpT bs = U := ⟨_, rfl⟩
  rw [hU]
  have HU := Lib.hid hU
  clear hb hl hby hU
  go_enter Try.func21, Try.ntmps21
  go_wp2_with fail
  refine HC.out.mono ?_
  rintro e w1 ⟨gk, TK0, rfl, hK, hF1, hTK⟩
  clear HC
  go_wp2_with fail
  refine (iNew w1).mono ?_
  rintro e w2 ⟨rfl, hT, hB2, hs2⟩
  have hI : UpI w w2 gk TK0 (w1.heap.size + 1) w1.heap.size [] (bs, false) :=
    ⟨hK.fr (Fr.below (S := fun _ => False) hB2) (fun _ _ h => h), hT, ⟨fun e => by have := hK.lt _ e; omega, fun e => by have := hK.lt _ e; omega, fun p hp => by cases hp⟩, ⟨by have := hF1.size; omega, hF1.size, (fun p hp => by cases hp), hTK⟩, (hF1.mono (fun _ _ e => e.elim)).trans (Fr.below hB2)⟩
  have HI := Lib.hid hI
  obtain ⟨gt, hgt⟩ : ∃ gt, w1.heap.size + 1 = gt := ⟨_, rfl⟩
  obtain ⟨gm, hgm⟩ : ∃ gm, w1.heap.size = gm := ⟨_, rfl⟩
  rw [hgt, hgm] at HI
  have hne : gt ≠ gm := by omega
  simp only [hgt] at *
  clear hI hK hT hs2 hB2 hF1 hTK hgt hgm
  go_wp2_with fail
  refine (xTk w2 gk TK0 (bs, false) 0 64 HI.out.tk).mono ?_
  have hn := tk_in (bs, false) (a := 0) (b := 64) (by omega) (by omega)
  obtain ⟨k0, hk0⟩ : ∃ k, tk (bs, false) 0 64 = k := ⟨_, rfl⟩
  rw [hk0] at hn ⊢
  rintro e w3 ⟨rfl, hK3, hF3⟩
  have HI := Lib.hid (HI.out.take hK3 hF3)
  obtain ⟨hn0, hn1⟩ := hn
  have HUU : Hid ((match cliT k0.1.toNat k0.2 (-1) [] with | none => none | some R => if doneT R.2.1 R.2.2 = 0 then some R.1 else none) = U) := Lib.hid (by rw [← HU.out, unpT, hk0])
  clear hK3 hF3 hk0 HU
  obtain ⟨N, hN⟩ : ∃ N : Nat, k0.1 = N := ⟨k0.1.toNat, by omega⟩
  rw [hN, Int.toNat_natCast] at HUU
  rw [hN] at hn0 hn1 ⊢
  clear hn0 hN
  obtain ⟨R0, hR0⟩ : ∃ R0, cliT N k0.2 (-1) [] = R0 := ⟨_, rfl⟩
  rw [hR0] at HUU
  have HR0 := Lib.hid hR0; have HNE := Lib.hid hne
  clear hR0 hne
  go_wp2_with fail
  go_loopw [18, 6] (fun i la wr => ∃ (k : Nat) (last : Int) (l : List (Int × Cl)) (t : Tst), k ≤ N ∧ i = .int .i64 k ∧ la = .int .i64 last ∧ UpI w wr gk TK0 gt gm l t ∧ cliT (N - k) t last (absl l) = R0 ∧ l.length ≤ k ∧ (∀ p ∈ absl l, isCl p.1 = true) ∧ (∀ p ∈ absl l, p.2.2.length ≤ 128)) (fun i _ _ => N - (intOf i).toNat)
  case atStart => exact ⟨0, -1, [], k0.2, Nat.zero_le _, rfl, rfl, HI.out, HR0.out, Nat.le_refl _, (fun p hp => by cases hp), (fun p hp => by cases hp)⟩
  case round =>
    obtain ⟨k, last, l, t, hk, rfl, rfl, hI, hC, hlk, hkey, hlen⟩ := hrel
    have HI := Lib.hid hI; have HC := Lib.hid hC; have HK := Lib.hid hkey; have HL := Lib.hid hlen
    clear hI hC hkey hlen HR0
    by_cases hlt : k < N
    · go_wp2_with fail
      refine (xTk wr gk TK0 t 0 63 HI.out.tk).mono ?_
      have hc := tk_in t (a := 0) (b := 63) (by omega) (by omega)
      obtain ⟨c, hcc⟩ : ∃ c, tk t 0 63 = c := ⟨_, rfl⟩
      rw [hcc] at hc ⊢
      rintro e w4 ⟨rfl, hK4, hF4⟩
      have HI4 := Lib.hid (HI.out.take hK4 hF4)
      have HCC := Lib.hid hcc
      obtain ⟨hc0, hc1⟩ := hc
      clear hK4 hF4 hcc HI
      go_wp2_with fail
      refine (xTk w4 gk TK0 c.2 1 4294967297 HI4.out.tk).mono ?_
      have hm := tk_in1 c.2 (b := 4294967297) (by omega)
      obtain ⟨mk, hmm⟩ : ∃ x, tk c.2 1 4294967297 = x := ⟨_, rfl⟩
      rw [hmm] at hm ⊢
      rintro e w5 ⟨rfl, hK5, hF5⟩
      have HI5 := Lib.hid (HI4.out.take hK5 hF5)
      have HMM := Lib.hid hmm
      obtain ⟨hm0, hm1⟩ := hm
      clear hK5 hF5 hmm HI4
      have hmk := @run_makeMap Try.prog
      go_wp2_with fail
      have hI6 := HI5.out.keep (((Fr.refl (fun _ => False) w5).alloc (.map #[] 0)).alloc (.cells #[.int .i64 mk.1, .map (some w5.heap.size)] 68))
      have hx6 : ((w5.alloc (.map #[] 0)).alloc (.cells #[.int .i64 mk.1, .map (some w5.heap.size)] 68)).heap[w5.heap.size + 1]? = some (.cells #[.int .i64 mk.1, .map (some w5.heap.size)] 68) := heap_at (by simp) _
      have hr6 : Mp Try.prog ((w5.alloc (.map #[] 0)).alloc (.cells #[.int .i64 mk.1, .map (some w5.heap.size)] 68)) 3 ktI RowV.enc w5.heap.size [] := (Mp.made Try.prog w5 3 ktI RowV.enc).alloc _
      have hnew : w.heap.size ≤ w5.heap.size ∧ (∀ b, w5.heap.size ≤ b → ¬ TK0 b) ∧ gt < w5.heap.size ∧ gm < w5.heap.size ∧ ∀ p ∈ l, p.2.b < w5.heap.size :=
        ⟨HI5.out.fr.size, fun b hb e => by have := HI5.out.tk.lt b e; omega, HI5.out.tab.glt, HI5.out.tab.map.lt, fun p hp => (HI5.out.tab.rows p hp).lt⟩
      obtain ⟨mb, hmb⟩ : ∃ mb, w5.heap.size = mb := ⟨_, rfl⟩
      rw [hmb] at hI6 hx6 hr6 hnew ⊢
      obtain ⟨W6, hW6⟩ : ∃ W6, (w5.alloc (.map #[] 0)).alloc (.cells #[.int .i64 mk.1, .map (some mb)] 68) = W6 := ⟨_, rfl⟩
      rw [hW6] at hI6 hx6 hr6 ⊢
      have HI6 := Lib.hid hI6; have HX6 := Lib.hid hx6; have HR6 := Lib.hid hr6; have HNW := Lib.hid hnew
      have p0 := cell_obj hx6 0 (.int .i64 mk.1) rfl
      have hwr : IntKind.i64.wrap (mk.1 - 1) = mk.1 - 1 := by rw [IntKind.wrap_i64]; omega
      have hn := tk_in mk.2 (a := 0) (b := 128) (by omega) (by omega)
      obtain ⟨nn, hnn⟩ : ∃ x, tk mk.2 0 128 = x := ⟨_, rfl⟩
      rw [hnn] at hn
      have HNN := Lib.hid hnn; have HNB := Lib.hid hn
      have hxT : ∀ w', TK w' gk TK0 mk.2.1 mk.2.2 → Calls Try.prog 43 #[.pointer (some ⟨gk, 0, none⟩), .int .i64 0, .int .i64 128] w' fun e w'' => e = .returned (.int .i64 nn.1) ∧ TK w'' gk TK0 nn.2.1 nn.2.2 ∧ Fr TK0 w' w'' := fun w' h => by rw [← hnn]; exact xTk w' gk TK0 mk.2 0 128 h
      have HXT := Lib.hid hxT
      have HI7 := HI6; have HX7 := HX6; have HR7 := HR6
      clear hI6 hx6 hr6 hnew hmb hW6 hmk hnn hn hxT
      go_region_held3 (fun w' => w'.cell? ⟨mb + 1, 0, none⟩ = some (.int .i64 mk.1)) (first | exact p0 | exact cell_obj HX7.out 0 (.int .i64 mk.1) rfl)
        (first | (go_at_call 43; refine (HXT.out _ (HI7.out.tk.fr (Fr.refl (fun _ => False) W6).drew (fun _ _ h => h))).mono ?_; rintro e w7 ⟨rfl, hK7, hF7⟩; have HX7 := Lib.hid (hF7.at_ HX6.out (HNW.out.2.1 _ (by omega))); have HR7 := Lib.hid (hF7.mp HR6.out.drew (HNW.out.2.1 _ (by omega))); have HI7 := Lib.hid ((HI6.out.keep (Fr.refl _ W6).drew).take hK7 hF7); clear hK7 hF7))
      have hsc : cliT (N - k) t last (absl l) = (if c.1 ≤ last ∨ (mk.1 ≤ 1 ∧ nn.1 = 0) then none else match rowsT nn.1.toNat nn.2 c.1 (mk.1 - 1) [] with | none => none | some R => cliT (N - (k + 1)) R.2 c.1 (putS ktI.lt (absl l) c.1 (mk.1, R.1))) := by
        rw [show N - k = (N - (k + 1)) + 1 by omega, cliT]
        simp only [HCC.out, HMM.out, HNN.out]
      rw [HC.out] at hsc
      obtain ⟨hnn0, hnn1⟩ := HNB.out
      obtain ⟨M, hM⟩ : ∃ M : Nat, nn.1 = M := ⟨nn.1.toNat, by omega⟩
      rw [hM] at hsc hnn1 ⊢
      rw [Int.toNat_natCast] at hsc
      have HB7 := Lib.hid (HI7.out.fr.toBelow (B := w.heap.size) (fun b e => e) (Nat.le_refl _))
      have p7 := cell_obj HX7.out 0 (.int .i64 mk.1) rfl
      clear hnn0 hM HNB HNN HXT HCC HMM HC HI6 HX6 HR6 hwr p0
      by_cases hb1 : c.1 ≤ last
      · rw [if_pos (.inl hb1)] at hsc
        have hUn : U = none := by rw [← HUU.out, hsc]
        have HUN := Lib.hid hUn
        clear hsc hUn
        go_wp2_with fail
        go_ret2
        exact ⟨HB7.out, .inl ⟨HUN.out, rfl⟩⟩
      · by_cases hb2 : mk.1 ≤ 1 ∧ (M : Int) = 0
        · obtain ⟨hb2, hb3⟩ := hb2
          rw [if_pos (.inr ⟨hb2, hb3⟩)] at hsc
          have hUn : U = none := by rw [← HUU.out, hsc]
          have HUN := Lib.hid hUn
          clear hsc hUn
          obtain rfl : M = 0 := by omega
          go_wp2_with fail
          go_ret2
          exact ⟨HB7.out, .inl ⟨HUN.out, rfl⟩⟩
        · rw [if_neg (fun e => e.elim hb1 hb2)] at hsc
          have HSC := Lib.hid hsc
          have hb4 : ¬ mk.1 ≤ 1 ∨ (mk.1 ≤ 1 ∧ ((M : Int) == 0) = false) := by
            by_cases h : mk.1 ≤ 1
            · exact .inr ⟨h, by simp; intro e; exact hb2 ⟨h, by omega⟩⟩
            · exact .inl h
          clear hb2 hsc
          rcases hb4 with hb4 | ⟨hb4, hb5⟩
          all_goals
            go_wp2_with fail
            go_loopw [44, 10] (fun i be wr => ∃ (j : Nat) (before : Int) (acc : Rows) (t' : Tst), j ≤ M ∧ i = .int .i64 j ∧ be = .int .i64 before ∧ UpI w wr gk TK0 gt gm l t' ∧ wr.heap[mb + 1]? = some (.cells #[.int .i64 mk.1, .map (some mb)] 68) ∧ Mp Try.prog wr 3 ktI RowV.enc mb acc ∧ (match rowsT (M - j) t' c.1 before acc with | none => none | some R => cliT (N - (k + 1)) R.2 c.1 (putS ktI.lt (absl l) c.1 (mk.1, R.1))) = R0 ∧ acc.length ≤ j) (fun i _ _ => M - (intOf i).toNat)
            case atStart => exact ⟨0, _, [], nn.2, Nat.zero_le _, rfl, rfl, HI7.out, HX7.out, HR7.out, HSC.out.symm, Nat.le_refl _⟩
            case round =>
              obtain ⟨j, before, acc, t', hj, rfl, rfl, hIj, hXj, hRj, hCj, hlj⟩ := hrel
              have HIj := Lib.hid hIj; have HXj := Lib.hid hXj; have HRj := Lib.hid hRj; have HCj := Lib.hid hCj
              clear hIj hXj hRj hCj HI7 HX7 HR7 p7 HSC
              by_cases hlt2 : j < M
              · go_wp2_with fail
                have hin := readT_in t' c.1
                refine (iRead wr gk TK0 t' c.1 HIj.out.tk).mono ?_
                have hCs := HCj.out
                rw [show M - j = (M - (j + 1)) + 1 by omega, rowsT_succ] at hCs
                obtain ⟨x, hx⟩ : ∃ x, readT t' c.1 = x := ⟨_, rfl⟩
                rw [hx] at hin hCs ⊢
                obtain ⟨⟨num, ⟨mix, dn, ⟨ac, an, acode, an2⟩⟩⟩, t8⟩ := x
                dsimp only at hin hCs
                have HCS := Lib.hid hCs
                obtain ⟨hin0, hin1⟩ := hin
                unfold RowV.enc
                dsimp only
                rintro e w8 ⟨rfl, hK8, hF8⟩
                have HI8 := Lib.hid (HIj.out.take hK8 hF8)
                have HX8 := Lib.hid (hF8.at_ HXj.out (HNW.out.2.1 _ (by omega)))
                have HR8 := Lib.hid (hF8.mp HRj.out (HNW.out.2.1 _ (by omega)))
                clear hK8 hF8 hx hCs HIj HXj HRj HCj
                have p7 := cell_obj HX8.out 1 (.map (some mb)) rfl
                have hxs : mb + 1 < w8.heap.size := (Array.getElem?_eq_some_iff.1 HX8.out).1
                by_cases hb6 : num ≤ before
                · have hsc := HCS.out
                  rw [if_pos hb6] at hsc
                  have hUn : U = none := by rw [← HUU.out, ← hsc]
                  have HUN := Lib.hid hUn
                  have HB8 := Lib.hid ((HI8.out.keep ((Fr.refl _ w8).alloc (.cells #[.int .u64 mix, .bool dn, .int .i64 ac, .int .i64 an, .int .i64 acode, .int .i64 an2] 73))).fr.toBelow (B := w.heap.size) (fun b e => e) (Nat.le_refl _))
                  clear hsc hUn
                  go_wp2_with fail
                  go_ret2
                  exact ⟨HB8.out, .inl ⟨HUN.out, rfl⟩⟩
                · have hsc := HCS.out
                  rw [if_neg hb6] at hsc
                  have HSJ := Lib.hid hsc
                  obtain ⟨w9, hst, hM9, ht9⟩ := (HR8.out.alloc (.cells #[.int .u64 mix, .bool dn, .int .i64 ac, .int .i64 an, .int .i64 acode, .int .i64 an2] 73)).store idK Try.underlying66 (by omega) (x := num) (by show okI num; unfold okI; omega) ⟨mix, dn, ⟨ac, an, acode, an2⟩⟩
                  have hst' : (Instr.mapUpdate 66 (.map (some mb)) (.int .i64 num) (.agg #[.int .u64 mix, .bool dn, .int .i64 ac, .int .i64 an, .int .i64 acode, .int .i64 an2])).run Try.prog (w8.alloc (.cells #[.int .u64 mix, .bool dn, .int .i64 ac, .int .i64 an, .int .i64 acode, .int .i64 an2] 73)) = .ok () w9 := hst
                  have hF9 : Fr (fun b => b = mb) w8 w9 := ((Fr.refl _ w8).alloc _).trans (Fr.turned ht9 rfl)
                  have HI9 := Lib.hid (HI8.out.other hF9 (fun b e => by subst e; exact ⟨HNW.out.1, HNW.out.2.1 _ (Nat.le_refl _), by have := HNW.out.2.2.1; omega, by have := HNW.out.2.2.2.1; omega, fun p hp => by have := HNW.out.2.2.2.2 p hp; omega⟩))
                  have HX9 := Lib.hid (hF9.at_ HX8.out (by omega))
                  have HM9 := Lib.hid hM9
                  have HL9 := Lib.hid (putS_len ktI.lt acc num ⟨mix, dn, ⟨ac, an, acode, an2⟩⟩)
                  clear hst hM9 ht9 hF9 hsc
                  go_wp2_with fail
                  go_roundw
                  case rel => exact ⟨j + 1, num, _, t8, by omega, by go_num, rfl, HI9.out, HX9.out, HM9.out, HSJ.out, by have := HL9.out; omega⟩
                  case measure => simp [intOf]; omega
              · have hjM : j = M := by omega
                subst hjM
                have hCs := HCj.out
                rw [Nat.sub_self] at hCs
                have hCs : cliT (N - (k + 1)) t' c.1 (putS ktI.lt (absl l) c.1 (mk.1, acc)) = R0 := hCs
                have HCS := Lib.hid hCs
                have p0 := cell_obj HXj.out 0 (.int .i64 mk.1) rfl
                have p1 := cell_obj HXj.out 1 (.map (some mb)) rfl
                have p2 := HIj.out.tab.cell
                obtain ⟨w9, hst, hM9, ht9⟩ := HIj.out.tab.map.drew.store idK Try.underlying61 (by omega) (x := c.1) (by show okI c.1; unfold okI; omega) ⟨mk.1, mb, acc⟩
                have hst' : (Instr.mapUpdate 61 (.map (some gm)) (.int .i64 c.1) (.agg #[.int .i64 mk.1, .map (some mb)])).run Try.prog wr.drew = .ok () w9 := hst
                have hF9 : Fr (fun b => b = gm) wr w9 := ((Fr.refl _ wr).drew).trans (Fr.turned ht9 rfl)
                have hR9 := hF9.mp HRj.out (fun e => by have := HNW.out.2.2.2.1; omega)
                have hT9 : Tab w9 gt gm (putS ktI.lt l c.1 ⟨mk.1, mb, acc⟩) := HIj.out.tab.put hF9 HNE.out (fun b e => .inl e) hM9 hR9 (by have := HNW.out.2.2.2.1; show mb ≠ gm; omega) (fun p hp e => by have := HNW.out.2.2.2.2 p (mem_delS.1 hp).1; have : p.2.b = mb := e; omega)
                have hI9 : UpI w w9 gk TK0 gt gm (putS ktI.lt l c.1 ⟨mk.1, mb, acc⟩) t' := by
                  have hn := HIj.out.nt
                  have hw := HIj.out.new
                  refine ⟨HIj.out.tk.fr hF9 (fun b hb e => hn.2.1 (e ▸ hb)), hT9, ⟨hn.1, hn.2.1, fun p hp => ?_⟩, ⟨hw.1, hw.2.1, fun p hp => ?_, hw.2.2.2⟩, HIj.out.fr.trans' hF9 (fun b _ e => e ▸ hw.2.1)⟩
                  · rcases mem_putS.1 hp with rfl | hp
                    · exact HNW.out.2.1 _ (Nat.le_refl _)
                    · exact hn.2.2 p (mem_delS.1 hp).1
                  · rcases mem_putS.1 hp with rfl | hp
                    · exact HNW.out.1
                    · exact hw.2.2.1 p (mem_delS.1 hp).1
                have hA9 : absl (putS ktI.lt l c.1 ⟨mk.1, mb, acc⟩) = putS ktI.lt (absl l) c.1 (mk.1, acc) := absl_put ..
                have HI9 := Lib.hid hI9; have HA9 := Lib.hid hA9
                clear hst hCs hM9 ht9 hF9 hR9 hT9 hI9 hA9 HCj HXj HRj HIj
                go_wp2_with fail
                refine wp_region_still_tail 6 (by kernel_rfl) (by kernel_rfl) ?_
                simp only [List.take_succ_cons, List.take_zero, List.drop_succ_cons, List.drop_zero]
                change wpStill _ _ wr.drew (fun a' => wpList _ _ _ _ a' wr.drew) _ _
                have p0 : wr.drew.cell? ⟨mb + 1, 0, none⟩ = _ := p0
                have p1 : wr.drew.cell? ⟨mb + 1, 1, none⟩ = _ := p1
                have p2 : wr.drew.cell? ⟨gt, 0, none⟩ = _ := p2
                generalize wr.drew = V at *
                repeat still_step
                refine wpStill_nil ?_
                clear p0 p1 p2
                go_wp2_with fail
                go_roundw
                case rel =>
                  refine ⟨k + 1, c.1, _, t', by omega, by go_num, rfl, HI9.out, by rw [HA9.out]; exact HCS.out, by have := putS_len ktI.lt l c.1 (⟨mk.1, mb, acc⟩ : Cl); omega, ?_, ?_⟩
                  · rw [HA9.out]
                    intro p hp
                    rcases mem_putS.1 hp with rfl | hp
                    · unfold isCl; simp; omega
                    · exact HK.out p (mem_delS.1 hp).1
                  · rw [HA9.out]
                    intro p hp
                    rcases mem_putS.1 hp with rfl | hp
                    · show acc.length ≤ 128; omega
                    · exact HL.out p (mem_delS.1 hp).1
                case measure => simp [intOf]; omega
    · have hkN : N = k := by omega
      have hC0 : some (absl l, t) = R0 := by have := HC.out; rw [hkN, Nat.sub_self] at this; exact this
      have hres : (if doneT t.1 t.2 = 0 then some (absl l) else none) = U := by have := HUU.out; rw [← hC0] at this; exact this
      have hI := HI.out
      generalize hdd : doneT t.1 t.2 = dd at hres
      have hdn := cTDone wr gk TK0 t.1 t.2 hI.tk
      rw [hdd] at hdn
      have HDN := Lib.hid hdn
      have hRES := Lib.hid hres
      have HB := Lib.hid (hI.fr.toBelow (B := w.heap.size) (fun b e => e) (Nat.le_refl _))
      by_cases hd0 : dd = 0
      · subst hd0
        clear hkN hC0 hres hI hdn hdd
        go_wp2_with (go_at_call 45; refine HDN.out.mono ?_; rintro e w5 ⟨rfl, rfl⟩)
        go_ret2
        refine ⟨HB.out, .inr ⟨absl l, gt, fun b => b = gt ∨ b = gm ∨ ∃ p ∈ l, b = p.2.b, ?_, rfl, ⟨⟨gm, l, HI.out.tab, rfl, .inr (.inl rfl), fun p hp => .inr (.inr ⟨p, hp, rfl⟩)⟩, .inl rfl, ?_, HK.out, HL.out⟩, ?_⟩⟩
        · rw [← hRES.out]; simp
        · rintro b (rfl | rfl | ⟨p, hp, rfl⟩)
          · exact HI.out.tab.glt
          · exact HI.out.tab.map.lt
          · exact (HI.out.tab.rows p hp).lt
        · rintro b (rfl | rfl | ⟨p, hp, rfl⟩)
          · exact HI.out.new.1
          · exact HI.out.new.2.1
          · exact HI.out.new.2.2.1 p hp
      · have hdf : (dd != 0) = true := by simpa using hd0
        have hUn := hRES.out
        rw [if_neg hd0] at hUn
        have HUN := Lib.hid hUn
        clear hkN hC0 hres hI hdn hdd hUn
        go_wp2_with (go_at_call 45; refine HDN.out.mono ?_; rintro e w5 ⟨rfl, rfl⟩)
        go_ret2
        exact ⟨HB.out, .inl ⟨HUN.out.symm, rfl⟩⟩
end Go.Proofs.Ytakjiicnbocjeaa
