/- ident: what is packed is what is unpacked, and the other way round: plainly: tables. -/
import Derived.Test.YtakjiicnbocjeaaIdDoesM26
namespace Go.Proofs.Ytakjiicnbocjeaa
open Go.RowKit Go.Maps
theorem readT_ok {t : Tst} {c : Int} (h : t.2 = true) : (readT t c).2.2 = true := by
  unfold readT; simp [tk_bad h, h]
theorem putS_end {ν : Type} {l : List (Int × ν)} {n : Int} {v : ν} (h : ∀ p ∈ l, p.1 < n) : putS ktI.lt l n v = l ++ [(n, v)] := by
  have := putS_app (L := l) (M := []) (v := v) h (fun p hp => by cases hp)
  simpa using this
/-- A row of rows that rises behind number before. -/
structure RowsG (c before : Int) (R : Rows) : Prop where
  all : ∀ q ∈ R, GoodR c q ∧ before < q.1
  rise : Rise R
theorem rowsT_ok : ∀ (k : Nat) {t : Tst} {c before : Int} {acc : Rows} {R : Rows × Tst}, rowsT k t c before acc = some R → R.2.2 = false → t.2 = false
  | 0, t, c, before, acc, R, h, hR => by cases h; exact hR
  | k + 1, t, c, before, acc, R, h, hR => by
    rw [rowsT_succ] at h
    split at h
    · cases h
    · have := rowsT_ok k h hR
      cases e : t.2 with
      | false => rfl
      | true => rw [readT_ok e] at this; cases this
theorem rowsT_take : ∀ (k : Nat) {t : Tst} {c before : Int} {acc : Rows} {R : Rows × Tst}, (∀ p ∈ acc, p.1 ≤ before) → Byt t.1 → rowsT k t c before acc = some R → R.2.2 = false →
    ∃ R', R.1 = acc ++ R' ∧ R'.length = k ∧ t.1 = (rowsC R').flatten ++ R.2.1 ∧ RowsG c before R' ∧ Byt R.2.1
  | 0, t, c, before, acc, R, _, hb, h, hR => by
    cases h
    exact ⟨[], by simp, rfl, by simp [rowsC], ⟨fun q hq => (by cases hq), List.Pairwise.nil⟩, hb⟩
  | k + 1, t, c, before, acc, R, ha, hb, h, hR => by
    rw [rowsT_succ] at h
    by_cases hle : (readT t c).1.1 ≤ before
    · rw [if_pos hle] at h; cases h
    · rw [if_neg hle] at h
      have hlt : before < (readT t c).1.1 := by omega
      rw [putS_end (fun p hp => by have := ha p hp; omega)] at h
      have hok := rowsT_ok k h hR
      obtain ⟨e1, e2, e3, e4⟩ := readT_take hb hok
      obtain ⟨R', r1, r2, r3, r5, r6⟩ := rowsT_take k (by
        intro p hp
        rcases List.mem_append.1 hp with hp | hp
        · have := ha p hp; omega
        · simp at hp; subst hp; exact Int.le_refl _) e4 h hR
      refine ⟨((readT t c).1.1, (readT t c).1.2) :: R', by rw [r1]; simp, by simp [r2], ?_, ⟨?_, ?_⟩, r6⟩
      · rw [e1, r3]; simp [rowsC]
      · intro q hq
        rcases List.mem_cons.1 hq with rfl | hq
        · exact ⟨e3, hlt⟩
        · exact ⟨(r5.all q hq).1, by have := (r5.all q hq).2; omega⟩
      · exact List.pairwise_cons.2 ⟨fun q hq => (r5.all q hq).2, r5.rise⟩
theorem rowsT_give {c : Int} : ∀ {R : Rows} {before : Int} {acc : Rows} (r : List Int), (∀ p ∈ acc, p.1 ≤ before) → RowsG c before R → rowsT R.length ((rowsC R).flatten ++ r, false) c before acc = some (acc ++ R, (r, false))
  | [], before, acc, r, _, _ => by simp [rowsT, rowsC]
  | q :: R, before, acc, r, ha, h => by
    obtain ⟨hq, hlt⟩ := h.all q (by simp)
    obtain ⟨h1, h2⟩ := List.pairwise_cons.1 h.rise
    have e : (rowsC (q :: R)).flatten ++ r = (rowCs q.1 q.2).flatten ++ ((rowsC R).flatten ++ r) := by simp [rowsC]
    rw [e, List.length_cons, rowsT_succ, readT_give hq]
    dsimp only
    rw [if_neg (by omega)]
    rw [putS_end (fun p hp => by have := ha p hp; omega), rowsT_give r (by
      intro p hp
      rcases List.mem_append.1 hp with hp | hp
      · have := ha p hp; omega
      · simp at hp; subst hp; exact Int.le_refl _) ⟨fun p hp => ⟨(h.all p (by simp [hp])).1, h1 p hp⟩, h2⟩]
    simp
theorem cliT_succ (k : Nat) (t : Tst) (last : Int) (A : Tbl) {c m n : Int × Tst} (hc : tk t 0 63 = c) (hm : tk c.2 1 4294967297 = m) (hn : tk m.2 0 128 = n) :
    cliT (k + 1) t last A = if c.1 ≤ last ∨ (m.1 ≤ 1 ∧ n.1 = 0) then none else match rowsT n.1.toNat n.2 c.1 (m.1 - 1) [] with | none => none | some R => cliT k R.2 c.1 (putS ktI.lt A c.1 (m.1, R.1)) := by
  subst hc hm hn; rfl
theorem cliT_ok : ∀ (k : Nat) {t : Tst} {last : Int} {A : Tbl} {R : Tbl × Tst}, cliT k t last A = some R → R.2.2 = false → t.2 = false
  | 0, t, last, A, R, h, hR => by cases h; exact hR
  | k + 1, t, last, A, R, h, hR => by
    cases e : t.2 with
    | false => rfl
    | true =>
      rw [cliT_succ k t last A rfl rfl rfl, if_pos (by simp [tk_bad e])] at h
      cases h
theorem cliT_take : ∀ (k : Nat) {t : Tst} {last : Int} {A : Tbl} {R : Tbl × Tst}, (∀ p ∈ A, p.1 ≤ last) → Byt t.1 → cliT k t last A = some R → R.2.2 = false →
    ∃ A', R.1 = A ++ A' ∧ A'.length = k ∧ t.1 = (A'.flatMap cliC).flatten ++ R.2.1 ∧ ((∀ p ∈ A', GoodC p ∧ last < p.1) ∧ Rise A') ∧ Byt R.2.1
  | 0, t, last, A, R, _, hb, h, hR => by
    cases h
    exact ⟨[], by simp, rfl, by simp, ⟨fun q hq => (by cases hq), List.Pairwise.nil⟩, hb⟩
  | k + 1, t, last, A, R, ha, hb, h, hR => by
    obtain ⟨c, hc⟩ : ∃ c, tk t 0 63 = c := ⟨_, rfl⟩
    obtain ⟨m, hm⟩ : ∃ x, tk c.2 1 4294967297 = x := ⟨_, rfl⟩
    obtain ⟨n, hn⟩ : ∃ x, tk m.2 0 128 = x := ⟨_, rfl⟩
    rw [cliT_succ k t last A hc hm hn] at h
    by_cases hcond : c.1 ≤ last ∨ (m.1 ≤ 1 ∧ n.1 = 0)
    · rw [if_pos hcond] at h; cases h
    · rw [if_neg hcond] at h
      cases hr : rowsT n.1.toNat n.2 c.1 (m.1 - 1) [] with
      | none => rw [hr] at h; cases h
      | some S =>
        rw [hr] at h
        dsimp only at h
        have hS := cliT_ok k h hR
        have hn2 := rowsT_ok _ hr hS
        have hm2 : m.2.2 = false := by have := (tk_ok (t := m.2) (a := 0) (b := 128) (by rw [hn]; exact hn2)).1; exact this
        have hc2 : c.2.2 = false := by have := (tk_ok (t := c.2) (a := 1) (b := 4294967297) (by rw [hm]; exact hm2)).1; exact this
        obtain ⟨_, c1, c2, c3, c4⟩ := tk_take hb (by rw [hc]; exact hc2)
        rw [hc] at c1 c2 c4
        obtain ⟨_, m1, m2, m3, m4⟩ := tk_take c4 (by rw [hm]; exact hm2)
        rw [hm] at m1 m2 m4
        obtain ⟨_, n1, n2, n3, n4⟩ := tk_take m4 (by rw [hn]; exact hn2)
        rw [hn] at n1 n2 n4
        obtain ⟨R', r1, r2, r3, r5, r6⟩ := rowsT_take _ (fun p hp => by cases hp) n4 hr hS
        rw [List.nil_append] at r1
        have hnk : ((R'.length : Nat) : Int) = n.1 := by rw [r2]; omega
        rw [putS_end (fun p hp => by have := ha p hp; omega)] at h
        obtain ⟨A', a1, a2, a3, a5, a6⟩ := cliT_take k (by
          intro p hp
          rcases List.mem_append.1 hp with hp | hp
          · have := ha p hp; omega
          · simp at hp; subst hp; exact Int.le_refl _) r6 h hR
        have hG : GoodC (c.1, (m.1, S.1)) := by
          refine ⟨c2, m2, ?_, ?_, ?_, ?_, ?_⟩
          · rw [r1]; dsimp only; omega
          · rw [r1]; exact fun q hq => (r5.all q hq).1
          · rw [r1]; dsimp only; omega
          · rw [r1]; exact r5.rise
          · rw [r1]; dsimp only; exact fun q hq => by have := (r5.all q hq).2; omega
        refine ⟨(c.1, (m.1, S.1)) :: A', by rw [a1]; simp, by simp [a2], ?_, ⟨?_, ?_⟩, a6⟩
        · rw [c1, m1, n1, r3, a3]
          simp only [List.flatMap_cons, cliC, List.flatten_append, List.flatten_cons, List.flatten_nil, List.append_assoc, List.nil_append, List.append_nil]
          rw [r1, hnk]
        · intro q hq
          rcases List.mem_cons.1 hq with rfl | hq
          · exact ⟨hG, by dsimp only; omega⟩
          · exact ⟨(a5.1 q hq).1, by have := (a5.1 q hq).2; omega⟩
        · exact List.pairwise_cons.2 ⟨fun q hq => (a5.1 q hq).2, a5.2⟩
theorem cliT_give : ∀ {A' : Tbl} {last : Int} {A : Tbl} (r : List Int), (∀ p ∈ A, p.1 ≤ last) → (∀ p ∈ A', GoodC p ∧ last < p.1) → Rise A' → cliT A'.length ((A'.flatMap cliC).flatten ++ r, false) last A = some (A ++ A', (r, false))
  | [], last, A, r, _, _, _ => by simp [cliT]
  | p :: A', last, A, r, ha, hg, hr => by
    obtain ⟨hp, hlt⟩ := hg p (by simp)
    obtain ⟨h1, h2⟩ := List.pairwise_cons.1 hr
    obtain ⟨c, ⟨mk, R⟩⟩ := p
    obtain ⟨key, mark, len, rows, pres, rise, low⟩ := hp
    dsimp only at *
    have e : (((c, (mk, R)) :: A').flatMap cliC).flatten ++ r = numB c ++ (numB mk ++ (numB (R.length : Int) ++ ((rowsC R).flatten ++ ((A'.flatMap cliC).flatten ++ r)))) := by
      simp [cliC]
    rw [e, List.length_cons, cliT_succ A'.length _ last A (tk_give (by unfold okI; omega) key.1 key.2 _) (tk_give (okMk mark) mark.1 mark.2 _) (tk_give (okLen len) (by omega) (by omega) _), if_neg (by dsimp only; omega)]
    dsimp only
    rw [Int.toNat_natCast, rowsT_give _ (fun p hp => by cases hp) ⟨fun q hq => ⟨rows q hq, by have := low q hq; omega⟩, rise⟩]
    dsimp only
    rw [putS_end (fun p hp => by have := ha p hp; omega), List.nil_append, cliT_give r (by
      intro p hp
      rcases List.mem_append.1 hp with hp | hp
      · have := ha p hp; omega
      · simp at hp; subst hp; exact Int.le_refl _) (fun q hq => ⟨(hg q (by simp [hq])).1, h1 q hq⟩) h2]
    simp
/-- WHAT IS UNPACKED IS GOOD, and is packed as it was. -/
theorem unpT_take {bs : List Int} {A : Tbl} (hb : Byt bs) (h : unpT bs = some A) : Good A ∧ bs = (tabC A).flatten := by
  unfold unpT at h
  cases hc : cliT (tk (bs, false) 0 64).1.toNat (tk (bs, false) 0 64).2 (-1) [] with
  | none => rw [hc] at h; cases h
  | some R =>
    rw [hc] at h
    dsimp only at h
    by_cases hd : doneT R.2.1 R.2.2 = 0
    · rw [if_pos hd] at h
      cases h
      have hd2 : R.2.2 = false ∧ R.2.1 = [] := by
        unfold doneT at hd
        split at hd
        · omega
        · rename_i hn
          refine ⟨?_, ?_⟩
          · cases e : R.2.2 with
            | false => rfl
            | true => exact absurd (.inl e) hn
          · exact Classical.byContradiction fun e => hn (.inr e)
      have hk := cliT_ok _ hc hd2.1
      obtain ⟨_, t1, t2, t3, t4⟩ := tk_take (t := (bs, false)) hb hk
      obtain ⟨A', a1, a2, a3, a5, a6⟩ := cliT_take _ (fun p hp => by cases hp) t4 hc hd2.1
      rw [List.nil_append] at a1
      rw [a1]
      refine ⟨⟨fun p hp => (a5.1 p hp).1, a5.2⟩, ?_⟩
      have t1 : bs = _ := t1
      rw [a3, hd2.2, List.append_nil] at t1
      rw [t1]
      unfold tabC
      rw [a2, List.flatten_cons, show (((tk (bs, false) 0 64).1.toNat : Nat) : Int) = (tk (bs, false) 0 64).1 by omega]
    · rw [if_neg hd] at h; cases h
theorem unpT_give {A : Tbl} (h : Good A) : unpT (tabC A).flatten = some A := by
  have hl := h.len
  unfold unpT
  have e : (tabC A).flatten = numB (A.length : Int) ++ (A.flatMap cliC).flatten := by simp [tabC]
  rw [e, tk_give (by unfold okI; omega) (by omega) (by omega)]
  dsimp only
  have := cliT_give (A' := A) (last := -1) (A := []) [] (fun p hp => by cases hp) (fun p hp => ⟨h.all p hp, by have := (h.all p hp).key; omega⟩) h.rise
  rw [List.append_nil, List.nil_append] at this
  rw [Int.toNat_natCast, this]
  simp [doneT]
set_option maxRecDepth 100000 in
theorem rowCs_len {c : Int} {q : Int × RowV} (h : GoodR c q) : ((rowCs q.1 q.2).flatten).length ≤ 29 := by
  obtain ⟨n, ⟨mix, dn, a⟩⟩ := q
  obtain ⟨nu, ⟨m0, m1, o1, o2⟩, co, an⟩ := h
  dsimp only at nu m0 m1 o1 o2 co an
  have hand := mixMod m0 m1
  have h1 := numB_le (n := n) (k := 5) (by omega) (by omega) (by omega)
  have h2 := numB_le (n := mix / 4294967296) (k := 4) (by omega) (by omega) (by omega)
  have h3 := numB_le (n := mix % 4294967296) (k := 4) (by omega) (by omega) (by omega)
  have h4 := numB_le (n := a.code) (k := 2) (by omega) (by omega) (by omega)
  have h5 := (numB_len o2).2
  unfold rowCs
  dsimp only
  rw [hand]
  cases dn <;> simp <;> omega
theorem rowsC_len {c : Int} : ∀ {R : Rows}, (∀ q ∈ R, GoodR c q) → ((rowsC R).flatten).length ≤ 29 * R.length
  | [], _ => by simp [rowsC]
  | q :: R, h => by
    have h1 := rowCs_len (h q (by simp))
    have h2 := rowsC_len (R := R) (fun p hp => h p (by simp [hp]))
    have e : (rowsC (q :: R)).flatten = (rowCs q.1 q.2).flatten ++ (rowsC R).flatten := by simp [rowsC]
    rw [e, List.length_append, List.length_cons]; omega
set_option maxRecDepth 100000 in
theorem cliC_len {p : Int × (Int × Rows)} (h : GoodC p) : ((cliC p).flatten).length ≤ 3722 := by
  obtain ⟨key, mark, len, rows, pres, rise, low⟩ := h
  have h1 := numB_le (n := p.1) (k := 1) (by omega) (by omega) (by omega)
  have h2 := numB_le (n := p.2.1) (k := 5) (by omega) (by omega) (by omega)
  have h3 := numB_le (n := (p.2.2.length : Int)) (k := 1) (by omega) (by omega) (by omega)
  have h4 := rowsC_len rows
  unfold cliC
  simp only [List.flatten_append, List.flatten_cons, List.flatten_nil, List.length_append, List.length_nil]
  omega
theorem tabs_len : ∀ {A : Tbl}, (∀ p ∈ A, GoodC p) → ((A.flatMap cliC).flatten).length ≤ 3722 * A.length
  | [], _ => by simp
  | p :: A, h => by
    have h1 := cliC_len (h p (by simp))
    have h2 := tabs_len (A := A) (fun q hq => h q (by simp [hq]))
    rw [List.flatMap_cons, List.flatten_append, List.length_append, List.length_cons]; omega
theorem tab_flat {A : Tbl} (h : Good A) : mkAll ([], false) (tabC A) = ((tabC A).flatten, false) := by
  have h1 := tabs_len h.all
  have h2 := h.len
  have h3 := numB_le (n := (A.length : Int)) (k := 1) (by omega) (by omega) (by omega)
  have e : (tabC A).flatten = numB (A.length : Int) ++ (A.flatMap cliC).flatten := by simp [tabC]
  have := mkAll_flat (cs := tabC A) (bs := []) (by rw [e, List.length_append, List.length_nil]; omega)
  rw [this, List.nil_append]
end Go.Proofs.Ytakjiicnbocjeaa
