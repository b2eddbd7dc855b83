/- ident.Table as a thing of its own: which blocks it owns, what it says; every call is a step. -/
import Derived.Test.YtakjiicnbocjeaaIdH
import Derived.Test.YtakjiicnbocjeaaIdD
import Derived.Test.YtakjiicnbocjeaaIdE
namespace Go.Proofs.Ytakjiicnbocjeaa
open Go.RowKit Go.Maps
def updS {ν : Type} (l : List (Int × ν)) (c : Int) (v : ν) : List (Int × ν) := l.map fun p => if p.1 = c then (p.1, v) else p
def askA (A : Tbl) (c n mix : Int) : Int × Ans := if (isCl c && isNu n) = true then ((askM (cli A c) n mix).1, (askM (cli A c) n mix).2.1) else (0, Ans.zero)
def askT (A : Tbl) (c n mix : Int) : Tbl := if (isCl c && isNu n && (askM (cli A c) n mix).2.2) = true then putS ktI.lt A c ((cli A c).1, putS ktI.lt (cli A c).2 n ⟨mix, false, Ans.zero⟩) else A
def tellA (A : Tbl) (a : Ans) : Int := if tellOk a = true then tellM (cli A a.c) a.n else 1
def tellT (A : Tbl) (a : Ans) : Tbl := if (tellOk a && decide (tellM (cli A a.c) a.n = 0)) = true then updS A a.c ((cli A a.c).1, tellR (cli A a.c).2 a) else A
def lowA (A : Tbl) (c mark : Int) : Int := if lowOk c mark = true then (if lowBad (cli A c).2 mark = true then 80 else 0) else 1
def lowT (A : Tbl) (c mark : Int) : Tbl := if (lowOk c mark && !lowBad (cli A c).2 mark && decide ((cli A c).1 < mark)) = true then putS ktI.lt A c (mark, (cli A c).2.filter fun p => !decide (p.1 < mark)) else A
/-- Object g is a table that says A, and owns the blocks of TS. -/
structure TA (w : World) (g : Nat) (TS : Nat → Prop) (A : Tbl) : Prop where
  ex : ∃ m l, Tab w g m l ∧ absl l = A ∧ TS m ∧ ∀ p ∈ l, TS p.2.b
  own : TS g
  lt : ∀ b, TS b → b < w.heap.size
  keys : ∀ p ∈ A, isCl p.1 = true
  lens : ∀ p ∈ A, p.2.2.length ≤ 128
/-- A step of the table: what it owns behind it is what it owned, or new. -/
def Stp (TS : Nat → Prop) (w w' : World) (TS' : Nat → Prop) : Prop := Fr TS w w' ∧ ∀ b, TS' b → TS b ∨ w.heap.size ≤ b
section
variable {w w' : World} {g m : Nat} {TS : Nat → Prop} {A : Tbl} {l : List (Int × Cl)}
theorem TA.fr {S : Nat → Prop} (h : TA w g TS A) (hf : Fr S w w') (hS : ∀ b, TS b → ¬ S b) : TA w' g TS A := by
  obtain ⟨⟨m, l, h1, h2, h3, h4⟩, h5, h6, h7, h8⟩ := h
  exact ⟨⟨m, l, h1.fr hf (hS _ h5) (hS _ h3) (fun p hp => hS _ (h4 p hp)), h2, h3, h4⟩, h5, fun b hb => Nat.lt_of_lt_of_le (h6 b hb) hf.size, h7, h8⟩
theorem rise_len : ∀ {l : List Int} {lo hi : Int}, l.Pairwise (fun x y => x < y) → (∀ x ∈ l, lo ≤ x ∧ x < hi) → lo ≤ hi → (l.length : Int) ≤ hi - lo
  | [], _, _, _, _, h => by simp; omega
  | a :: r, lo, hi, hp, hb, h => by
    obtain ⟨h1, h2⟩ := List.pairwise_cons.1 hp
    have ha := hb a (by simp)
    have := rise_len (l := r) (lo := a + 1) (hi := hi) h2 (fun x hx => ⟨by have := h1 x hx; omega, (hb x (by simp [hx])).2⟩) (by omega)
    simp only [List.length_cons]; omega
theorem Tab.len64 (h : Tab w g m l) (hk : ∀ p ∈ absl l, isCl p.1 = true) : l.length ≤ 64 := by
  have hs := (h.map.ok idK).2
  have hs2 : (l.map (·.1)).Pairwise (fun x y : Int => x < y) := by
    rw [List.pairwise_map]
    exact hs.imp (fun {p q} e => by have e : decide (p.1 < q.1) = true := e; simpa using e)
  have := rise_len (lo := 0) (hi := 64) hs2 (fun x hx => by
    obtain ⟨p, hp, rfl⟩ := List.mem_map.1 hx
    have := hk (p.1, (p.2.mark, p.2.rows)) (List.mem_map.2 ⟨p, hp, rfl⟩)
    unfold isCl at this; simpa using this) (by omega)
  simp at this; omega
theorem putS_len {ν : Type} (lt : Int → Int → Bool) (l : List (Int × ν)) (x : Int) (v : ν) : (putS lt l x v).length ≤ l.length + 1 := by
  rw [(putS_perm lt l x v).length_eq]
  have := List.length_filter_le (fun p : Int × ν => !decide (p.1 = x)) l
  simp [delS]; exact this
theorem Stp.refl (h : Fr (fun _ => False) w w') : Stp TS w w' TS := ⟨h.mono (fun _ _ e => e.elim), fun _ e => .inl e⟩
theorem cli_len (h : ∀ p ∈ A, p.2.2.length ≤ 128) (c : Int) : (cli A c).2.length ≤ 128 := by
  unfold cli
  cases e : getS A c with
  | none => simp
  | some x => exact h _ (getS_mem e)
end
theorem xNew (w : World) : Calls Try.prog 9 #[] w fun e w' => e = .returned (.pointer (some ⟨w.heap.size + 1, 0, none⟩)) ∧ TA w' (w.heap.size + 1) (fun b => b = w.heap.size ∨ b = w.heap.size + 1) [] ∧ Fr (fun _ => False) w w' ∧ w'.heap.size = w.heap.size + 2 := by
  refine (iNew w).mono ?_
  rintro e w' ⟨rfl, hT, hB, hs⟩
  exact ⟨rfl, ⟨⟨_, _, hT, rfl, .inl rfl, fun p hp => by cases hp⟩, .inr rfl, fun b hb => by omega, fun p hp => (by cases hp), fun p hp => (by cases hp)⟩, Fr.below hB, hs⟩
theorem xMark (w : World) (g : Nat) (TS : Nat → Prop) (A : Tbl) (c : Int) (h : TA w g TS A) (hc : okI c) :
    Calls Try.prog 15 #[.pointer (some ⟨g, 0, none⟩), .int .i64 c] w fun e w' => e = .returned (.int .i64 (markM A c)) ∧ Fr (fun _ => False) w w' := by
  obtain ⟨⟨m, l, hT, rfl, hm, hr⟩, -⟩ := h
  exact iMark w g m l c hT hc
theorem xLen (w : World) (g : Nat) (TS : Nat → Prop) (A : Tbl) (c : Int) (h : TA w g TS A) (hc : okI c) :
    Calls Try.prog 14 #[.pointer (some ⟨g, 0, none⟩), .int .i64 c] w fun e w' => e = .returned (.int .i64 (lenM A c)) ∧ w = w' := by
  obtain ⟨⟨m, l, hT, rfl, hm, hr⟩, -⟩ := h
  exact iLen w g m l c hT hc
theorem xAsk (w : World) (g : Nat) (TS : Nat → Prop) (A : Tbl) (c n : Int) (v : Value) (bs : List Int) (h : TA w g TS A) (hb : Bs w v bs) :
    Calls Try.prog 11 #[.pointer (some ⟨g, 0, none⟩), .int .i64 c, .int .i64 n, v] w fun e w' =>
      e = .returned (.tuple #[.int .i64 (askA A c n (mixF 7 bs)).1, (askA A c n (mixF 7 bs)).2.enc]) ∧ ∃ TS', TA w' g TS' (askT A c n (mixF 7 bs)) ∧ Stp TS w w' TS' := by
  generalize hmx : mixF 7 bs = mx
  cases hi : (isCl c && isNu n) with
  | false =>
    have hTA := h
    obtain ⟨⟨m, l, hT, rfl, hm, hr⟩, hg, hlt, hk, hl⟩ := h
    refine (iAsk_arg w g m l c n v hT hi).mono ?_
    rintro e w' ⟨rfl, hf⟩
    exact ⟨by simp [askA, hi], TS, by simpa [askT, hi] using hTA.fr hf (fun _ _ h => h), Stp.refl hf⟩
  | true =>
    have hTA := h
    obtain ⟨⟨m, l, hT, rfl, hm, hr⟩, hg, hlt, hk, hl⟩ := h
    have hi2 := hi
    rw [Bool.and_eq_true] at hi2
    refine (iAsk w g m l c n v bs hT hi2.1 hi2.2 hb (by have := hT.len64 hk; omega)).mono ?_
    rw [hmx]
    rintro e w' ⟨x, w1, hgot, rfl, hcase⟩
    have hcl := hgot.cli
    have e1 : askA (absl l) c n mx = ((askM (x.mark, x.rows) n mx).1, (askM (x.mark, x.rows) n mx).2.1) := by simp [askA, hi, hcl]
    refine ⟨by rw [e1], ?_⟩
    rcases hcase with ⟨h0, hf⟩ | ⟨h0, hT', hf, hold, hlt'⟩
    · exact ⟨TS, by simpa [askT, hi, hcl, h0] using hTA.fr hf (fun _ _ h => h), Stp.refl hf⟩
    · have e2 : askT (absl l) c n mx = absl (askL l c x n mx) := by
        simp only [askT, hi, hcl, h0, askL, absl_put, Bool.and_self, if_true]
      rw [e2]
      have hxl : x.rows.length < 128 := by
        refine Nat.lt_of_not_le fun hge => ?_
        unfold askM at h0
        split at h0
        · cases h0
        · split at h0
          · split at h0
            · cases h0
            · split at h0 <;> cases h0
          · cases h0
      refine ⟨fun b => TS b ∨ b = x.b, ⟨⟨m, _, hT', rfl, .inl hm, ?_⟩, .inl hg, ?_, ?_, ?_⟩, hf.mono ?_, ?_⟩
      · intro p hp
        rcases mem_putS.1 hp with rfl | hp
        · exact .inr rfl
        · exact .inl (hr p (mem_delS.1 hp).1)
      · rintro b (hb | rfl)
        · have := hlt b hb; have := hf.size; omega
        · exact hlt'
      · intro p hp
        rw [← e2] at hp
        simp only [askT, hi, hcl, h0, Bool.and_self, if_true] at hp
        rcases mem_putS.1 hp with rfl | hp
        · exact hi2.1
        · exact hk p (mem_delS.1 hp).1
      · intro p hp
        rw [← e2] at hp
        simp only [askT, hi, hcl, h0, Bool.and_self, if_true] at hp
        rcases mem_putS.1 hp with rfl | hp
        · exact Nat.le_trans (putS_len _ _ _ _) (by show x.rows.length + 1 ≤ 128; omega)
        · exact hl p (mem_delS.1 hp).1
      · rintro b hb (rfl | rfl)
        · exact hm
        · exact hr _ (getS_mem (hold hb))
      · rintro b (hb | rfl)
        · exact .inl hb
        · rcases Nat.lt_or_ge x.b w.heap.size with hb | hb
          · exact .inl (hr _ (getS_mem (hold hb)))
          · exact .inr hb
theorem updS_absl {l : List (Int × Cl)} {c : Int} {x : Cl} (hnd : KeysND l) (hx : getS l c = some x) (R : Rows) :
    absl (l.map fun p => if p.1 = c then (p.1, { p.2 with rows := R }) else p) = updS (absl l) c (x.mark, R) := by
  unfold absl updS
  rw [List.map_map, List.map_map]
  refine List.map_congr_left fun p hp => ?_
  simp only [Function.comp]
  by_cases e : p.1 = c
  · have : getS l c = some p.2 := getS_of hnd (e ▸ hp)
    rw [this] at hx
    cases hx
    simp [e]
  · simp [e]
theorem tellR_len (rows : Rows) (a : Ans) : (tellR rows a).length ≤ rows.length := by
  unfold tellR
  cases e : getS rows a.n with
  | none => simp
  | some r =>
    simp only
    rw [(putS_perm _ _ _ _).length_eq]
    simp only [List.length_cons, delS]
    have hm := getS_mem e
    have : (rows.filter fun p => !decide (p.1 = a.n)).length < rows.length := by
      rw [← List.countP_eq_length_filter]
      refine Nat.lt_of_le_of_ne List.countP_le_length (fun he => ?_)
      have := List.countP_eq_length.1 he _ hm
      simp at this
    omega
theorem Tab.told {w w' : World} {g m : Nat} {l : List (Int × Cl)} {c : Int} {x : Cl} {R : Rows} (h : Tab w g m l) (hx : getS l c = some x) (hf : Fr (fun b => b = x.b) w w')
    (hR : Mp Try.prog w' 3 ktI RowV.enc x.b R) : Tab w' g m (l.map fun p => if p.1 = c then (p.1, { p.2 with rows := R }) else p) := by
  have hmem := getS_mem hx
  have hnd : KeysND l := mp_nd h.map
  have hxm := h.nb _ hmem
  have hxg : g ≠ x.b := map_ne_cells (h.rows _ hmem) h.box
  have hsame : ∀ p ∈ l, p.1 = c → p.2 = x := fun p hp e => by
    have : getS l c = some p.2 := getS_of hnd (e ▸ hp)
    rw [this] at hx; cases hx; rfl
  refine ⟨hf.at_ h.box (fun e => hxg e), ?_, ?_, ?_, ?_⟩
  · obtain ⟨n, ho⟩ := hf.mp h.map (fun e => hxm e.symm)
    refine ⟨n, ?_⟩
    have : ktI.dat Cl.enc (l.map fun p => if p.1 = c then (p.1, { p.2 with rows := R }) else p) = ktI.dat Cl.enc l := by
      unfold KT.dat
      rw [List.map_map]
      congr 1
      refine List.map_congr_left fun p hp => ?_
      simp only [Function.comp]
      by_cases e : p.1 = c
      · simp [e, Cl.enc]
      · simp [e]
    rw [this]; exact ho
  · intro p hp
    obtain ⟨q, hq, rfl⟩ := List.mem_map.1 hp
    by_cases e : q.1 = c
    · simp only [e, if_true]
      rw [hsame q hq e]; exact hR
    · simp only [e, if_false]
      refine hf.mp (h.rows q hq) (pw_ne (f := fun p : Int × Cl => p.2.b) h.dis hq hmem (fun h => e (by rw [h])))
  · intro p hp
    obtain ⟨q, hq, rfl⟩ := List.mem_map.1 hp
    have := h.nb q hq
    by_cases e : q.1 = c <;> simpa [e] using this
  · rw [List.pairwise_map]
    refine h.dis.imp (fun {p q} e => ?_)
    by_cases e1 : p.1 = c <;> by_cases e2 : q.1 = c <;> simpa [e1, e2] using e
theorem xTell (w : World) (g : Nat) (TS : Nat → Prop) (A : Tbl) (a : Ans) (h : TA w g TS A) :
    Calls Try.prog 12 #[.pointer (some ⟨g, 0, none⟩), a.enc] w fun e w' =>
      e = .returned (.int .i64 (tellA A a)) ∧ ∃ TS', TA w' g TS' (tellT A a) ∧ Stp TS w w' TS' := by
  have hTA := h
  obtain ⟨⟨m, l, hT, rfl, hm, hr⟩, hg, hlt, hk, hl⟩ := h
  cases ha : tellOk a with
  | false =>
    refine (iTell_arg w g m l a hT ha).mono ?_
    rintro e w' ⟨rfl, hf⟩
    exact ⟨by simp [tellA, ha], TS, by simpa [tellT, ha] using hTA.fr hf (fun _ _ h => h), Stp.refl hf⟩
  | true =>
    refine (iTell w g m l a hT ha (fun p hp => by have := hl (p.1, (p.2.mark, p.2.rows)) (List.mem_map.2 ⟨p, hp, rfl⟩); simp at this; omega)).mono ?_
    rintro e w' ⟨x, w1, hgot, rfl, hcase⟩
    have hcl := hgot.cli
    refine ⟨by simp [tellA, ha, hcl], ?_⟩
    rcases hcase with ⟨h0, hf⟩ | ⟨h0, hx, hR, hf⟩
    · exact ⟨TS, by simpa [tellT, ha, hcl, h0] using hTA.fr hf (fun _ _ h => h), Stp.refl hf⟩
    · have e2 : tellT (absl l) a = absl (l.map fun p => if p.1 = a.c then (p.1, { p.2 with rows := tellR x.rows a }) else p) := by
        rw [updS_absl (mp_nd hT.map) hx]; simp [tellT, ha, hcl, h0]
      have hsub : ∀ p ∈ tellT (absl l) a, isCl p.1 = true ∧ p.2.2.length ≤ 128 := by
        intro p hp
        simp only [tellT, ha, hcl, h0, decide_true, Bool.and_self, if_true, updS] at hp
        obtain ⟨q, hq, rfl⟩ := List.mem_map.1 hp
        by_cases e : q.1 = a.c
        · simp only [e, if_true]
          refine ⟨e ▸ hk q hq, Nat.le_trans (tellR_len _ _) ?_⟩
          have := cli_len hl a.c
          rw [hcl] at this; exact this
        · simp only [e, if_false]; exact ⟨hk q hq, hl q hq⟩
      refine ⟨TS, ⟨⟨m, _, hT.told hx hf hR, e2.symm, hm, ?_⟩, hg, fun b hb => Nat.lt_of_lt_of_le (hlt b hb) hf.size, fun p hp => (hsub p hp).1, fun p hp => (hsub p hp).2⟩, hf.mono ?_, fun b hb => .inl hb⟩
      · intro p hp
        obtain ⟨q, hq, rfl⟩ := List.mem_map.1 hp
        have := hr q hq
        by_cases e : q.1 = a.c <;> simpa [e] using this
      · rintro b hb rfl
        exact hr _ (getS_mem hx)
theorem xLow (w : World) (g : Nat) (TS : Nat → Prop) (A : Tbl) (c mark : Int) (h : TA w g TS A) :
    Calls Try.prog 13 #[.pointer (some ⟨g, 0, none⟩), .int .i64 c, .int .i64 mark] w fun e w' =>
      e = .returned (.int .i64 (lowA A c mark)) ∧ ∃ TS', TA w' g TS' (lowT A c mark) ∧ Stp TS w w' TS' := by
  have hTA := h
  obtain ⟨⟨m, l, hT, rfl, hm, hr⟩, hg, hlt, hk, hl⟩ := h
  cases ha : lowOk c mark with
  | false =>
    refine (iLow_arg w g m l c mark hT ha).mono ?_
    rintro e w' ⟨rfl, hf⟩
    exact ⟨by simp [lowA, ha], TS, by simpa [lowT, ha] using hTA.fr hf (fun _ _ h => h), Stp.refl hf⟩
  | true =>
    refine (iLow w g m l c mark hT ha (by have := hT.len64 hk; omega)).mono ?_
    rintro e w' ⟨x, w1, hgot, hcase⟩
    have hcl := hgot.cli
    rcases hcase with ⟨h0, rfl, hf⟩ | ⟨h0, rfl, h1, hf⟩ | ⟨h0, rfl, h1, hT', hf, hold, hlt'⟩
    · exact ⟨by simp [lowA, ha, hcl, h0], TS, by simpa [lowT, ha, hcl, h0] using hTA.fr hf (fun _ _ h => h), Stp.refl hf⟩
    · exact ⟨by simp [lowA, ha, hcl, h0], TS, by simpa [lowT, ha, hcl, h0, h1] using hTA.fr hf (fun _ _ h => h), Stp.refl hf⟩
    · refine ⟨by simp [lowA, ha, hcl, h0], ?_⟩
      have e2 : lowT (absl l) c mark = absl (putS ktI.lt l c ⟨mark, x.b, x.rows.filter fun p => !decide (p.1 < mark)⟩) := by
        simp only [lowT, ha, hcl, h0, h1, absl_put, Bool.and_self, Bool.not_false, decide_true, if_true]
      rw [e2]
      refine ⟨fun b => TS b ∨ b = x.b, ⟨⟨m, _, hT', rfl, .inl hm, ?_⟩, .inl hg, ?_, ?_, ?_⟩, hf.mono ?_, ?_⟩
      · intro p hp
        rcases mem_putS.1 hp with rfl | hp
        · exact .inr rfl
        · exact .inl (hr p (mem_delS.1 hp).1)
      · rintro b (hb | rfl)
        · have := hlt b hb; have := hf.size; omega
        · exact hlt'
      · intro p hp
        rw [absl_put] at hp
        rcases mem_putS.1 hp with rfl | hp
        · unfold lowOk at ha; simp at ha; exact ha.1.1
        · exact hk p (mem_delS.1 hp).1
      · intro p hp
        rw [absl_put] at hp
        rcases mem_putS.1 hp with rfl | hp
        · refine Nat.le_trans (List.length_filter_le _ _) ?_
          have := cli_len hl c
          rw [hcl] at this; exact this
        · exact hl p (mem_delS.1 hp).1
      · rintro b hb (rfl | rfl)
        · exact hm
        · exact hr _ (getS_mem (hold hb))
      · rintro b (hb | rfl)
        · exact .inl hb
        · rcases Nat.lt_or_ge x.b w.heap.size with hb | hb
          · exact .inl (hr _ (getS_mem (hold hb)))
          · exact .inr hb
end Go.Proofs.Ytakjiicnbocjeaa
