/- Texts of this claim, joined: ident.Table as a thing of its own: which blocks it owns, what it says; every call is a step; ident's law: lives; ident: plain facts on what tables say; ident.table.order: the keys, rising; Ranges over functions: an iterator's contract over a list that is known, and the loop's law; ident.Table at nil: numbers, Open, as iterators over nothing; Pack; ident.Table.numbers: the iterator over all numbers; cells: numbers as bytes: Num; cells.Num: walked; slices.Grow, slices.Concat, slices.Clone at bytes; slices.Concat, slices.Clone at bytes; cells.Maker: put, Num, Flag, New, Done. -/
import Derived.Test.YtakjiicnbocjeaaIdDoesM1
import Derived.Lib.SlBytesConst
import Derived.Test.YtakjiicnbocjeaaShelfB
import Derived.RangeFuncCalls
import Derived.RangeFuncLeaves
import Derived.OwnWalkIn
import Derived.TacticsInMore
import Derived.LoopNIn
import Derived.LoopIn
import Derived.RegionIn
import Derived.Shelf.Abstract
import Derived.Test.YtakjiicnbocjeaaLen64
import Derived.Maps.AppendAt
import Derived.RangeFuncBox
import Derived.OwnWalk
import Derived.Laws.BitsAllLaws
import Derived.Deep.LoopGhost
import Derived.Deep.RegionWith
import Derived.Deep.QuietTactic
import Derived.BigQuiet
namespace Go.Proofs.Ytakjiicnbocjeaa
open Go.RowKit Go.Maps
def updS {ν : Type} (l : List (Int × ν)) (c : Int) (v : ν) : List (Int × ν) := l.map fun p => if p.1 = c then (p.1, v) else p
def askA (A : Tbl) (c n mix : Int) : Int × Ans := if (isCl c && isNu n) = true then ((askM (cli A c) n mix).1, (askM (cli A c) n mix).2.1) else (0, Ans.zero)
def askT (A : Tbl) (c n mix : Int) : Tbl := if (isCl c && isNu n && (askM (cli A c) n mix).2.2) = true then putS ktI.lt A c ((cli A c).1, putS ktI.lt (cli A c).2 n ⟨mix, false, Ans.zero⟩) else A
def tellA (A : Tbl) (a : Ans) : Int := if tellOk a = true then tellM (cli A a.c) a.n else 1
def tellT (A : Tbl) (a : Ans) : Tbl := if (tellOk a && decide (tellM (cli A a.c) a.n = 0)) = true then updS A a.c ((cli A a.c).1, tellR (cli A a.c).2 a) else A
def lowA (A : Tbl) (c mark : Int) : Int := if lowOk c mark = true then (if lowBad (cli A c).2 mark = true then 80 else 0) else 1
def lowT (A : Tbl) (c mark : Int) : Tbl := if (lowOk c mark && !lowBad (cli A c).2 mark && decide ((cli A c).1 < mark)) = true then putS ktI.lt A c (mark, (cli A c).2.filter fun p => !decide (p.1 < mark)) else A
/-- Object g is a table that says A, and owns the blocks of TS. -/
structure TA (w : World) (g : Nat) (TS : Nat → Prop) (A : Tbl) : Prop where
  ex : ∃ m l, Tab w g m l ∧ absl l = A ∧ TS m ∧ ∀ p ∈ l, TS p.2.b
  own : TS g
  lt : ∀ b, TS b → b < w.heap.size
  keys : ∀ p ∈ A, isCl p.1 = true
  lens : ∀ p ∈ A, p.2.2.length ≤ 128
section
variable {w w' : World} {g m : Nat} {TS : Nat → Prop} {A : Tbl} {l : List (Int × Cl)}
theorem TA.fr {S : Nat → Prop} (h : TA w g TS A) (hf : Fr S w w') (hS : ∀ b, TS b → ¬ S b) : TA w' g TS A := by
  obtain ⟨⟨m, l, h1, h2, h3, h4⟩, h5, h6, h7, h8⟩ := h
  exact ⟨⟨m, l, h1.fr hf (hS _ h5) (hS _ h3) (fun p hp => hS _ (h4 p hp)), h2, h3, h4⟩, h5, fun b hb => Nat.lt_of_lt_of_le (h6 b hb) hf.size, h7, h8⟩
theorem rise_len : ∀ {l : List Int} {lo hi : Int}, l.Pairwise (fun x y => x < y) → (∀ x ∈ l, lo ≤ x ∧ x < hi) → lo ≤ hi → (l.length : Int) ≤ hi - lo
  | [], _, _, _, _, h => by simp; omega
  | a :: r, lo, hi, hp, hb, h => by
    obtain ⟨h1, h2⟩ := List.pairwise_cons.1 hp
    have ha := hb a (by simp)
    have := rise_len (l := r) (lo := a + 1) (hi := hi) h2 (fun x hx => ⟨by have := h1 x hx; omega, (hb x (by simp [hx])).2⟩) (by omega)
    simp only [List.length_cons]; omega
theorem Tab.len64 (h : Tab w g m l) (hk : ∀ p ∈ absl l, isCl p.1 = true) : l.length ≤ 64 := by
  have hs := (h.map.ok idK).2
  have hs2 : (l.map (·.1)).Pairwise (fun x y : Int => x < y) := by
    rw [List.pairwise_map]
    exact hs.imp (fun {p q} e => by have e : decide (p.1 < q.1) = true := e; simpa using e)
  have := rise_len (lo := 0) (hi := 64) hs2 (fun x hx => by
    obtain ⟨p, hp, rfl⟩ := List.mem_map.1 hx
    have := hk (p.1, (p.2.mark, p.2.rows)) (List.mem_map.2 ⟨p, hp, rfl⟩)
    unfold isCl at this; simpa using this) (by omega)
  simp at this; omega
theorem putS_len {ν : Type} (lt : Int → Int → Bool) (l : List (Int × ν)) (x : Int) (v : ν) : (putS lt l x v).length ≤ l.length + 1 := by
  rw [(putS_perm lt l x v).length_eq]
  have := List.length_filter_le (fun p : Int × ν => !decide (p.1 = x)) l
  simp [delS]; exact this
theorem cli_len (h : ∀ p ∈ A, p.2.2.length ≤ 128) (c : Int) : (cli A c).2.length ≤ 128 := by
  unfold cli
  cases e : getS A c with
  | none => simp
  | some x => exact h _ (getS_mem e)
end
theorem xNew (w : World) : Calls Try.prog 9 #[] w fun e w' => e = .returned (.pointer (some ⟨w.heap.size + 1, 0, none⟩)) ∧ TA w' (w.heap.size + 1) (fun b => b = w.heap.size ∨ b = w.heap.size + 1) [] ∧ Fr (fun _ => False) w w' ∧ w'.heap.size = w.heap.size + 2 := by
  refine (iNew w).mono ?_
  rintro e w' ⟨rfl, hT, hB, hs⟩
  exact ⟨rfl, ⟨⟨_, _, hT, rfl, .inl rfl, fun p hp => by cases hp⟩, .inr rfl, fun b hb => by omega, fun p hp => (by cases hp), fun p hp => (by cases hp)⟩, Fr.below hB, hs⟩
theorem xMark (w : World) (g : Nat) (TS : Nat → Prop) (A : Tbl) (c : Int) (h : TA w g TS A) (hc : okI c) :
    Calls Try.prog 15 #[.pointer (some ⟨g, 0, none⟩), .int .i64 c] w fun e w' => e = .returned (.int .i64 (markM A c)) ∧ Fr (fun _ => False) w w' := by
  obtain ⟨⟨m, l, hT, rfl, hm, hr⟩, -⟩ := h
  exact iMark w g m l c hT hc
theorem xLen (w : World) (g : Nat) (TS : Nat → Prop) (A : Tbl) (c : Int) (h : TA w g TS A) (hc : okI c) :
    Calls Try.prog 14 #[.pointer (some ⟨g, 0, none⟩), .int .i64 c] w fun e w' => e = .returned (.int .i64 (lenM A c)) ∧ w = w' := by
  obtain ⟨⟨m, l, hT, rfl, hm, hr⟩, -⟩ := h
  exact iLen w g m l c hT hc
theorem xAsk (w : World) (g : Nat) (TS : Nat → Prop) (A : Tbl) (c n : Int) (v : Value) (bs : List Int) (h : TA w g TS A) (hb : Bs w v bs) :
    Calls Try.prog 11 #[.pointer (some ⟨g, 0, none⟩), .int .i64 c, .int .i64 n, v] w fun e w' =>
      e = .returned (.tuple #[.int .i64 (askA A c n (mixF 7 bs)).1, (askA A c n (mixF 7 bs)).2.enc]) ∧ ∃ TS', TA w' g TS' (askT A c n (mixF 7 bs)) ∧ Stp TS w w' TS' := by
  generalize hmx : mixF 7 bs = mx
  cases hi : (isCl c && isNu n) with
  | false =>
    have hTA := h
    obtain ⟨⟨m, l, hT, rfl, hm, hr⟩, hg, hlt, hk, hl⟩ := h
    refine (iAsk_arg w g m l c n v hT hi).mono ?_
    rintro e w' ⟨rfl, hf⟩
    exact ⟨by simp [askA, hi], TS, by simpa [askT, hi] using hTA.fr hf (fun _ _ h => h), Stp.refl hf⟩
  | true =>
    have hTA := h
    obtain ⟨⟨m, l, hT, rfl, hm, hr⟩, hg, hlt, hk, hl⟩ := h
    have hi2 := hi
    rw [Bool.and_eq_true] at hi2
    refine (iAsk w g m l c n v bs hT hi2.1 hi2.2 hb (by have := hT.len64 hk; omega)).mono ?_
    rw [hmx]
    rintro e w' ⟨x, w1, hgot, rfl, hcase⟩
    have hcl := hgot.cli
    have e1 : askA (absl l) c n mx = ((askM (x.mark, x.rows) n mx).1, (askM (x.mark, x.rows) n mx).2.1) := by simp [askA, hi, hcl]
    refine ⟨by rw [e1], ?_⟩
    rcases hcase with ⟨h0, hf⟩ | ⟨h0, hT', hf, hold, hlt'⟩
    · exact ⟨TS, by simpa [askT, hi, hcl, h0] using hTA.fr hf (fun _ _ h => h), Stp.refl hf⟩
    · have e2 : askT (absl l) c n mx = absl (askL l c x n mx) := by
        simp only [askT, hi, hcl, h0, askL, absl_put, Bool.and_self, if_true]
      rw [e2]
      have hxl : x.rows.length < 128 := by
        refine Nat.lt_of_not_le fun hge => ?_
        unfold askM at h0
        split at h0
        · cases h0
        · split at h0
          · split at h0
            · cases h0
            · split at h0 <;> cases h0
          · cases h0
      refine ⟨fun b => TS b ∨ b = x.b, ⟨⟨m, _, hT', rfl, .inl hm, ?_⟩, .inl hg, ?_, ?_, ?_⟩, hf.mono ?_, ?_⟩
      · intro p hp
        rcases mem_putS.1 hp with rfl | hp
        · exact .inr rfl
        · exact .inl (hr p (mem_delS.1 hp).1)
      · rintro b (hb | rfl)
        · have := hlt b hb; have := hf.size; omega
        · exact hlt'
      · intro p hp
        rw [← e2] at hp
        simp only [askT, hi, hcl, h0, Bool.and_self, if_true] at hp
        rcases mem_putS.1 hp with rfl | hp
        · exact hi2.1
        · exact hk p (mem_delS.1 hp).1
      · intro p hp
        rw [← e2] at hp
        simp only [askT, hi, hcl, h0, Bool.and_self, if_true] at hp
        rcases mem_putS.1 hp with rfl | hp
        · exact Nat.le_trans (putS_len _ _ _ _) (by show x.rows.length + 1 ≤ 128; omega)
        · exact hl p (mem_delS.1 hp).1
      · rintro b hb (rfl | rfl)
        · exact hm
        · exact hr _ (getS_mem (hold hb))
      · rintro b (hb | rfl)
        · exact .inl hb
        · rcases Nat.lt_or_ge x.b w.heap.size with hb | hb
          · exact .inl (hr _ (getS_mem (hold hb)))
          · exact .inr hb
theorem updS_absl {l : List (Int × Cl)} {c : Int} {x : Cl} (hnd : KeysND l) (hx : getS l c = some x) (R : Rows) :
    absl (l.map fun p => if p.1 = c then (p.1, { p.2 with rows := R }) else p) = updS (absl l) c (x.mark, R) := by
  unfold absl updS
  rw [List.map_map, List.map_map]
  refine List.map_congr_left fun p hp => ?_
  simp only [Function.comp]
  by_cases e : p.1 = c
  · have : getS l c = some p.2 := getS_of hnd (e ▸ hp)
    rw [this] at hx
    cases hx
    simp [e]
  · simp [e]
theorem tellR_len (rows : Rows) (a : Ans) : (tellR rows a).length ≤ rows.length := by
  unfold tellR
  cases e : getS rows a.n with
  | none => simp
  | some r =>
    simp only
    rw [(putS_perm _ _ _ _).length_eq]
    simp only [List.length_cons, delS]
    have hm := getS_mem e
    have : (rows.filter fun p => !decide (p.1 = a.n)).length < rows.length := by
      rw [← List.countP_eq_length_filter]
      refine Nat.lt_of_le_of_ne List.countP_le_length (fun he => ?_)
      have := List.countP_eq_length.1 he _ hm
      simp at this
    omega
theorem Tab.told {w w' : World} {g m : Nat} {l : List (Int × Cl)} {c : Int} {x : Cl} {R : Rows} (h : Tab w g m l) (hx : getS l c = some x) (hf : Fr (fun b => b = x.b) w w')
    (hR : Mp Try.prog w' 3 ktI RowV.enc x.b R) : Tab w' g m (l.map fun p => if p.1 = c then (p.1, { p.2 with rows := R }) else p) := by
  have hmem := getS_mem hx
  have hnd : KeysND l := mp_nd h.map
  have hxm := h.nb _ hmem
  have hxg : g ≠ x.b := map_ne_cells (h.rows _ hmem) h.box
  have hsame : ∀ p ∈ l, p.1 = c → p.2 = x := fun p hp e => by
    have : getS l c = some p.2 := getS_of hnd (e ▸ hp)
    rw [this] at hx; cases hx; rfl
  refine ⟨hf.at_ h.box (fun e => hxg e), ?_, ?_, ?_, ?_⟩
  · obtain ⟨n, ho⟩ := hf.mp h.map (fun e => hxm e.symm)
    refine ⟨n, ?_⟩
    have : ktI.dat Cl.enc (l.map fun p => if p.1 = c then (p.1, { p.2 with rows := R }) else p) = ktI.dat Cl.enc l := by
      unfold KT.dat
      rw [List.map_map]
      congr 1
      refine List.map_congr_left fun p hp => ?_
      simp only [Function.comp]
      by_cases e : p.1 = c
      · simp [e, Cl.enc]
      · simp [e]
    rw [this]; exact ho
  · intro p hp
    obtain ⟨q, hq, rfl⟩ := List.mem_map.1 hp
    by_cases e : q.1 = c
    · simp only [e, if_true]
      rw [hsame q hq e]; exact hR
    · simp only [e, if_false]
      refine hf.mp (h.rows q hq) (pw_ne (f := fun p : Int × Cl => p.2.b) h.dis hq hmem (fun h => e (by rw [h])))
  · intro p hp
    obtain ⟨q, hq, rfl⟩ := List.mem_map.1 hp
    have := h.nb q hq
    by_cases e : q.1 = c <;> simpa [e] using this
  · rw [List.pairwise_map]
    refine h.dis.imp (fun {p q} e => ?_)
    by_cases e1 : p.1 = c <;> by_cases e2 : q.1 = c <;> simpa [e1, e2] using e
theorem xTell (w : World) (g : Nat) (TS : Nat → Prop) (A : Tbl) (a : Ans) (h : TA w g TS A) :
    Calls Try.prog 12 #[.pointer (some ⟨g, 0, none⟩), a.enc] w fun e w' =>
      e = .returned (.int .i64 (tellA A a)) ∧ ∃ TS', TA w' g TS' (tellT A a) ∧ Stp TS w w' TS' := by
  have hTA := h
  obtain ⟨⟨m, l, hT, rfl, hm, hr⟩, hg, hlt, hk, hl⟩ := h
  cases ha : tellOk a with
  | false =>
    refine (iTell_arg w g m l a hT ha).mono ?_
    rintro e w' ⟨rfl, hf⟩
    exact ⟨by simp [tellA, ha], TS, by simpa [tellT, ha] using hTA.fr hf (fun _ _ h => h), Stp.refl hf⟩
  | true =>
    refine (iTell w g m l a hT ha (fun p hp => by have := hl (p.1, (p.2.mark, p.2.rows)) (List.mem_map.2 ⟨p, hp, rfl⟩); simp at this; omega)).mono ?_
    rintro e w' ⟨x, w1, hgot, rfl, hcase⟩
    have hcl := hgot.cli
    refine ⟨by simp [tellA, ha, hcl], ?_⟩
    rcases hcase with ⟨h0, hf⟩ | ⟨h0, hx, hR, hf⟩
    · exact ⟨TS, by simpa [tellT, ha, hcl, h0] using hTA.fr hf (fun _ _ h => h), Stp.refl hf⟩
    · have e2 : tellT (absl l) a = absl (l.map fun p => if p.1 = a.c then (p.1, { p.2 with rows := tellR x.rows a }) else p) := by
        rw [updS_absl (mp_nd hT.map) hx]; simp [tellT, ha, hcl, h0]
      have hsub : ∀ p ∈ tellT (absl l) a, isCl p.1 = true ∧ p.2.2.length ≤ 128 := by
        intro p hp
        simp only [tellT, ha, hcl, h0, decide_true, Bool.and_self, if_true, updS] at hp
        obtain ⟨q, hq, rfl⟩ := List.mem_map.1 hp
        by_cases e : q.1 = a.c
        · simp only [e, if_true]
          refine ⟨e ▸ hk q hq, Nat.le_trans (tellR_len _ _) ?_⟩
          have := cli_len hl a.c
          rw [hcl] at this; exact this
        · simp only [e, if_false]; exact ⟨hk q hq, hl q hq⟩
      refine ⟨TS, ⟨⟨m, _, hT.told hx hf hR, e2.symm, hm, ?_⟩, hg, fun b hb => Nat.lt_of_lt_of_le (hlt b hb) hf.size, fun p hp => (hsub p hp).1, fun p hp => (hsub p hp).2⟩, hf.mono ?_, fun b hb => .inl hb⟩
      · intro p hp
        obtain ⟨q, hq, rfl⟩ := List.mem_map.1 hp
        have := hr q hq
        by_cases e : q.1 = a.c <;> simpa [e] using this
      · rintro b hb rfl
        exact hr _ (getS_mem hx)
theorem xLow (w : World) (g : Nat) (TS : Nat → Prop) (A : Tbl) (c mark : Int) (h : TA w g TS A) :
    Calls Try.prog 13 #[.pointer (some ⟨g, 0, none⟩), .int .i64 c, .int .i64 mark] w fun e w' =>
      e = .returned (.int .i64 (lowA A c mark)) ∧ ∃ TS', TA w' g TS' (lowT A c mark) ∧ Stp TS w w' TS' := by
  have hTA := h
  obtain ⟨⟨m, l, hT, rfl, hm, hr⟩, hg, hlt, hk, hl⟩ := h
  cases ha : lowOk c mark with
  | false =>
    refine (iLow_arg w g m l c mark hT ha).mono ?_
    rintro e w' ⟨rfl, hf⟩
    exact ⟨by simp [lowA, ha], TS, by simpa [lowT, ha] using hTA.fr hf (fun _ _ h => h), Stp.refl hf⟩
  | true =>
    refine (iLow w g m l c mark hT ha (by have := hT.len64 hk; omega)).mono ?_
    rintro e w' ⟨x, w1, hgot, hcase⟩
    have hcl := hgot.cli
    rcases hcase with ⟨h0, rfl, hf⟩ | ⟨h0, rfl, h1, hf⟩ | ⟨h0, rfl, h1, hT', hf, hold, hlt'⟩
    · exact ⟨by simp [lowA, ha, hcl, h0], TS, by simpa [lowT, ha, hcl, h0] using hTA.fr hf (fun _ _ h => h), Stp.refl hf⟩
    · exact ⟨by simp [lowA, ha, hcl, h0], TS, by simpa [lowT, ha, hcl, h0, h1] using hTA.fr hf (fun _ _ h => h), Stp.refl hf⟩
    · refine ⟨by simp [lowA, ha, hcl, h0], ?_⟩
      have e2 : lowT (absl l) c mark = absl (putS ktI.lt l c ⟨mark, x.b, x.rows.filter fun p => !decide (p.1 < mark)⟩) := by
        simp only [lowT, ha, hcl, h0, h1, absl_put, Bool.and_self, Bool.not_false, decide_true, if_true]
      rw [e2]
      refine ⟨fun b => TS b ∨ b = x.b, ⟨⟨m, _, hT', rfl, .inl hm, ?_⟩, .inl hg, ?_, ?_, ?_⟩, hf.mono ?_, ?_⟩
      · intro p hp
        rcases mem_putS.1 hp with rfl | hp
        · exact .inr rfl
        · exact .inl (hr p (mem_delS.1 hp).1)
      · rintro b (hb | rfl)
        · have := hlt b hb; have := hf.size; omega
        · exact hlt'
      · intro p hp
        rw [absl_put] at hp
        rcases mem_putS.1 hp with rfl | hp
        · unfold lowOk at ha; simp at ha; exact ha.1.1
        · exact hk p (mem_delS.1 hp).1
      · intro p hp
        rw [absl_put] at hp
        rcases mem_putS.1 hp with rfl | hp
        · refine Nat.le_trans (List.length_filter_le _ _) ?_
          have := cli_len hl c
          rw [hcl] at this; exact this
        · exact hl p (mem_delS.1 hp).1
      · rintro b hb (rfl | rfl)
        · exact hm
        · exact hr _ (getS_mem (hold hb))
      · rintro b (hb | rfl)
        · exact .inl hb
        · rcases Nat.lt_or_ge x.b w.heap.size with hb | hb
          · exact .inl (hr _ (getS_mem (hold hb)))
          · exact .inr hb
end Go.Proofs.Ytakjiicnbocjeaa
namespace Go.Proofs.Ytakjiicnbocjeaa
open Go.RowKit Go.Maps
theorem mixXY : mixF 7 [120] ≠ mixF 7 [121] := by decide +kernel
theorem cvBytes (w : World) (b : Nat) (C : Array Value) (n c : Nat) (hb : b = w.heap.size) :
    (convert 28 28 (.slice (some ⟨b, 0, none⟩) n c)).run Try.prog (w.alloc (.cells C 5)) = .ok (.slice (some ⟨b, 0, none⟩) n c) (w.alloc (.cells C 5 (C.size, C.size + 1))) := by
  subst hb
  exact Lib.run_convert_bytes_const w _ _ C n c Try.underlying28 Try.underlying5
theorem Bs.one (w : World) (b : Nat) (x : Int) (t : TypeId) (fz : Nat × Nat) (hb : b = w.heap.size) (h0 : 0 ≤ x) (h1 : x < 256) : Bs (w.alloc (.cells #[.int .u8 x] t fz)) (.slice (some ⟨b, 0, none⟩) 1 1) [x] := by
  subst hb
  refine ⟨by simp, _, _, rfl, fun i y hy => ?_⟩
  match i, hy with
  | 0, hy =>
    cases hy
    exact ⟨h0, h1, _, rfl, by show (w.alloc _).cell? ⟨w.heap.size, 0, none⟩ = _; unfold World.cell?; rw [heap_new]; rfl⟩
def A1 : Tbl := [(3, (1, [(1, ⟨mixF 7 [120], false, Ans.zero⟩)]))]
def a5 : Ans := ⟨3, 1, 0, 5⟩
def A2 : Tbl := [(3, (1, [(1, ⟨mixF 7 [120], true, a5⟩)]))]
def A3 : Tbl := [(3, (2, []))]
theorem live1 : askA [] 3 1 (mixF 7 [120]) = (1, Ans.zero) ∧ askT [] 3 1 (mixF 7 [120]) = A1 := ⟨rfl, rfl⟩
theorem live2 : askA A1 3 1 (mixF 7 [121]) = (4, Ans.zero) ∧ askT A1 3 1 (mixF 7 [121]) = A1 := by
  have h := mixXY
  unfold A1
  generalize mixF 7 [120] = X at *
  generalize mixF 7 [121] = Y at *
  constructor <;> simp [askA, askT, askM, isCl, isNu, cli, getS, h]
theorem live3 : tellA A1 a5 = 0 ∧ tellT A1 a5 = A2 := ⟨rfl, rfl⟩
theorem live4 : askA A2 3 1 (mixF 7 [120]) = (3, a5) ∧ askT A2 3 1 (mixF 7 [120]) = A2 := by
  unfold A2
  generalize mixF 7 [120] = X
  constructor <;> simp [askA, askT, askM, isCl, isNu, cli, getS]
theorem live5 : lowA A2 3 2 = 0 ∧ lowT A2 3 2 = A3 := ⟨rfl, rfl⟩
theorem live6 : askA A3 3 1 (mixF 7 [120]) = (5, Ans.zero) ∧ askT A3 3 1 (mixF 7 [120]) = A3 := ⟨rfl, rfl⟩
theorem live7 : markM A3 3 = 2 ∧ lenM A3 3 = 0 := ⟨rfl, rfl⟩
theorem lv1 (W : World) (g : Nat) (TS : Nat → Prop) (v : Value) (h : TA W g TS []) (hb : Bs W v [120]) : Calls Try.prog 11 #[.pointer (some ⟨g, 0, none⟩), .int .i64 3, .int .i64 1, v] W fun e w' =>
    e = .returned (.tuple #[.int .i64 1, .agg #[.int .i64 0, .int .i64 0, .int .i64 0, .int .i64 0]]) ∧ ∃ TS', TA w' g TS' A1 ∧ Stp TS W w' TS' := by
  refine (xAsk W g TS _ 3 1 v [120] h hb).mono ?_
  rintro e w' ⟨he, TS', hT, hs⟩
  rw [live1.1] at he; rw [live1.2] at hT
  exact ⟨he, TS', hT, hs⟩
theorem lv2 (W : World) (g : Nat) (TS : Nat → Prop) (v : Value) (h : TA W g TS A1) (hb : Bs W v [121]) : Calls Try.prog 11 #[.pointer (some ⟨g, 0, none⟩), .int .i64 3, .int .i64 1, v] W fun e w' =>
    e = .returned (.tuple #[.int .i64 4, .agg #[.int .i64 0, .int .i64 0, .int .i64 0, .int .i64 0]]) ∧ ∃ TS', TA w' g TS' A1 ∧ Stp TS W w' TS' := by
  refine (xAsk W g TS _ 3 1 v [121] h hb).mono ?_
  rintro e w' ⟨he, TS', hT, hs⟩
  rw [live2.1] at he; rw [live2.2] at hT
  exact ⟨he, TS', hT, hs⟩
theorem lv3 (W : World) (g : Nat) (TS : Nat → Prop) (h : TA W g TS A1) : Calls Try.prog 12 #[.pointer (some ⟨g, 0, none⟩), .agg #[.int .i64 3, .int .i64 1, .int .i64 0, .int .i64 5]] W fun e w' =>
    e = .returned (.int .i64 0) ∧ ∃ TS', TA w' g TS' A2 ∧ Stp TS W w' TS' := by
  refine (xTell W g TS _ a5 h).mono ?_
  rintro e w' ⟨he, TS', hT, hs⟩
  rw [live3.1] at he; rw [live3.2] at hT
  exact ⟨he, TS', hT, hs⟩
theorem lv4 (W : World) (g : Nat) (TS : Nat → Prop) (v : Value) (h : TA W g TS A2) (hb : Bs W v [120]) : Calls Try.prog 11 #[.pointer (some ⟨g, 0, none⟩), .int .i64 3, .int .i64 1, v] W fun e w' =>
    e = .returned (.tuple #[.int .i64 3, .agg #[.int .i64 3, .int .i64 1, .int .i64 0, .int .i64 5]]) ∧ ∃ TS', TA w' g TS' A2 ∧ Stp TS W w' TS' := by
  refine (xAsk W g TS _ 3 1 v [120] h hb).mono ?_
  rintro e w' ⟨he, TS', hT, hs⟩
  rw [live4.1] at he; rw [live4.2] at hT
  exact ⟨he, TS', hT, hs⟩
theorem lv5 (W : World) (g : Nat) (TS : Nat → Prop) (h : TA W g TS A2) : Calls Try.prog 13 #[.pointer (some ⟨g, 0, none⟩), .int .i64 3, .int .i64 2] W fun e w' =>
    e = .returned (.int .i64 0) ∧ ∃ TS', TA w' g TS' A3 ∧ Stp TS W w' TS' := by
  refine (xLow W g TS _ 3 2 h).mono ?_
  rintro e w' ⟨he, TS', hT, hs⟩
  rw [live5.1] at he; rw [live5.2] at hT
  exact ⟨he, TS', hT, hs⟩
theorem lv6 (W : World) (g : Nat) (TS : Nat → Prop) (v : Value) (h : TA W g TS A3) (hb : Bs W v [120]) : Calls Try.prog 11 #[.pointer (some ⟨g, 0, none⟩), .int .i64 3, .int .i64 1, v] W fun e w' =>
    e = .returned (.tuple #[.int .i64 5, .agg #[.int .i64 0, .int .i64 0, .int .i64 0, .int .i64 0]]) ∧ ∃ TS', TA w' g TS' A3 ∧ Stp TS W w' TS' := by
  refine (xAsk W g TS _ 3 1 v [120] h hb).mono ?_
  rintro e w' ⟨he, TS', hT, hs⟩
  rw [live6.1] at he; rw [live6.2] at hT
  exact ⟨he, TS', hT, hs⟩
theorem lv7 (W : World) (g : Nat) (TS : Nat → Prop) (h : TA W g TS A3) : Calls Try.prog 15 #[.pointer (some ⟨g, 0, none⟩), .int .i64 3] W fun e w' =>
    e = .returned (.int .i64 2) ∧ Fr (fun _ => False) W w' := by
  refine (xMark W g TS _ 3 h ⟨by decide, by decide⟩).mono ?_
  rintro e w' ⟨he, hf⟩
  rw [live7.1] at he
  exact ⟨he, hf⟩
theorem lv8 (W : World) (g : Nat) (TS : Nat → Prop) (h : TA W g TS A3) : Calls Try.prog 14 #[.pointer (some ⟨g, 0, none⟩), .int .i64 3] W fun e w' =>
    e = .returned (.int .i64 0) ∧ W = w' := by
  refine (xLen W g TS _ 3 h ⟨by decide, by decide⟩).mono ?_
  rintro e w' ⟨he, hf⟩
  rw [live7.2] at he
  exact ⟨he, hf⟩
set_option maxRecDepth 100000 in
set_option maxHeartbeats 4000000 in
theorem iLives (w : World) : Calls Try.prog 10 #[] w fun e w' => e = .returned (.bool true) ∧ Below w.heap.size w w' := by
  have hcv := cvBytes
  have hfn := fun (w : World) (f : Fn) (x y : Array Value) => run_eql_func_nil (P := Try.prog) w 44 _ _ _ f x y Try.underlying44
  obtain ⟨n0, hn0⟩ : ∃ n0, w.heap.size = n0 := ⟨_, rfl⟩
  have HS := Lib.hid hn0
  go_enter Try.func10, Try.ntmps10
  go_wp2_with (first
    | (go_at_call 9; refine (xNew _).mono ?_; rintro e w1 ⟨rfl, hT1, hf1, hs1⟩; rw [hn0] at hs1 hT1)
    | (go_at_call 16; refine (iOpen _ _).mono ?_; rintro e w2 ⟨rfl, rfl⟩))
  have hL1 : ∀ b, (fun b => b = n0 ∨ b = n0 + 1) b → n0 ≤ b := fun b h => by omega
  have HT0 := Lib.hid hT1
  have HF0 := Lib.hid (hf1.mono (S' := fun b => n0 ≤ b) (fun _ _ h => h.elim))
  have HL0 := Lib.hid hL1
  clear hT1 hf1 hL1
  refine (lv1 _ _ _ _ (HT0.out.fr (((Fr.refl (fun _ => False) _).alloc _).alloc _) (fun _ _ h => h)) (Bs.one _ _ _ _ _ (by simp [hs1]) (by decide) (by decide))).mono ?_
  rintro e w2 ⟨rfl, TS2, hT, hs⟩
  have HF2 := Lib.hid (hs.fr (((HF0.out).alloc _).alloc _) HL0.out)
  have HL2 := Lib.hid (hs.low HL0.out (by simp; omega))
  have HT2 := Lib.hid hT
  clear hT hs
  go_wp2_with fail
  refine (lv2 _ _ _ _ (HT2.out.fr (((Fr.refl (fun _ => False) _).alloc _).alloc _) (fun _ _ h => h)) (Bs.one _ _ _ _ _ (by simp) (by decide) (by decide))).mono ?_
  rintro e w3 ⟨rfl, TS3, hT, hs⟩
  have HF3 := Lib.hid (hs.fr (((HF2.out).alloc _).alloc _) HL2.out)
  have HL3 := Lib.hid (hs.low HL2.out (by have := HF2.out.size; have := HS.out; simp; omega))
  have HT3 := Lib.hid hT
  clear hT hs
  go_wp2_with fail
  refine (lv3 _ _ _ (HT3.out.fr ((Fr.refl (fun _ => False) _).alloc _) (fun _ _ h => h))).mono ?_
  rintro e w4 ⟨rfl, TS4, hT, hs⟩
  have HF4 := Lib.hid (hs.fr ((HF3.out).alloc _) HL3.out)
  have HL4 := Lib.hid (hs.low HL3.out (by have := HF3.out.size; have := HS.out; simp; omega))
  have HT4 := Lib.hid hT
  clear hT hs
  go_wp2_with fail
  refine (lv4 _ _ _ _ (HT4.out.fr ((Fr.refl (fun _ => False) _).alloc _) (fun _ _ h => h)) (Bs.one _ _ _ _ _ (by simp) (by decide) (by decide))).mono ?_
  rintro e w5 ⟨rfl, TS5, hT, hs⟩
  have HF5 := Lib.hid (hs.fr ((HF4.out).alloc _) HL4.out)
  have HL5 := Lib.hid (hs.low HL4.out (by have := HF4.out.size; have := HS.out; simp; omega))
  have HT5 := Lib.hid hT
  clear hT hs
  go_wp2_with fail
  refine (lv5 _ _ _ (HT5.out.fr ((Fr.refl (fun _ => False) _).alloc _) (fun _ _ h => h))).mono ?_
  rintro e w6 ⟨rfl, TS6, hT, hs⟩
  have hy := hs.1.at_ (heap_new w5 _) (fun e => by have := HT5.out.lt _ e; omega)
  have hn : ¬ TS6 w5.heap.size := fun e => by
    rcases hs.2 _ e with h | h
    · have := HT5.out.lt _ h; omega
    · simp at h; omega
  have HY6 := Lib.hid hy; have HN6 := Lib.hid hn
  clear hy hn
  have HF6 := Lib.hid (hs.fr ((HF5.out).alloc _) HL5.out)
  have HL6 := Lib.hid (hs.low HL5.out (by have := HF5.out.size; have := HS.out; simp; omega))
  have HT6 := Lib.hid hT
  clear hT hs
  go_wp2_with fail
  refine (lv6 _ _ _ _ (HT6.out.fr ((Fr.refl (fun _ => False) _).alloc _) (fun _ _ h => h)) (Bs.one _ _ _ _ _ (by simp) (by decide) (by decide))).mono ?_
  rintro e w7 ⟨rfl, TS7, hT, hs⟩
  have hy := hs.1.at_ (heap_keep HY6.out _) HN6.out
  have hn : ¬ TS7 w5.heap.size := fun e => by
    rcases hs.2 _ e with h | h
    · exact HN6.out h
    · have := (Array.getElem?_eq_some_iff.1 HY6.out).1; simp at h; omega
  have HY7 := Lib.hid hy; have HN7 := Lib.hid hn
  clear hy hn
  have hyc := cell_obj (heap_keep HY7.out (.cells #[.int .i64 0, .int .i64 0, .int .i64 0, .int .i64 0] 31)) 3 (.int .i64 5) rfl
  have HF7 := Lib.hid (hs.fr ((HF6.out).alloc _) HL6.out)
  have HL7 := Lib.hid (hs.low HL6.out (by have := HF6.out.size; have := HS.out; simp; omega))
  have HT7 := Lib.hid hT
  clear hT hs
  go_wp2_with fail
  refine (lv7 _ _ _ (HT7.out.fr ((Fr.refl (fun _ => False) _).alloc _) (fun _ _ h => h))).mono ?_
  rintro e w8 ⟨rfl, hf8⟩
  have HT8 := Lib.hid ((HT7.out.fr ((Fr.refl (fun _ => False) _).alloc _) (fun _ _ h => h)).fr hf8 (fun _ _ h => h))
  have HF8 := Lib.hid ((HF7.out.alloc _).trans (hf8.mono (fun _ _ h => h.elim)))
  clear hf8 hyc
  go_wp2_with fail
  refine (lv8 _ _ _ HT8.out).mono ?_
  rintro e w9 ⟨rfl, rfl⟩
  go_wp2_with fail
  go_ret
  exact ⟨rfl, HF8.out.toBelow (fun b h => by have := HS.out; omega) (Nat.le_refl _)⟩
end Go.Proofs.Ytakjiicnbocjeaa
namespace Go.Proofs.Ytakjiicnbocjeaa
open Go.RowKit Go.Maps
section
variable {ν : Type}
theorem getS_ins {lt : Int → Int → Bool} {x : Int} {v : ν} (y : Int) : ∀ {l : List (Int × ν)}, (∀ p ∈ l, p.1 ≠ x) → getS (insS lt (x, v) l) y = if x = y then some v else getS l y
  | [], _ => by simp [insS, getS]
  | p :: r, h => by
    unfold insS
    by_cases hl : lt (x, v).1 p.1 = true
    · simp only [hl, if_true]; rw [getS]
    · simp only [hl, Bool.false_eq_true, if_false]
      rw [getS, getS_ins y (l := r) (fun q hq => h q (by simp [hq])), getS]
      have := h p (by simp)
      by_cases e1 : p.1 = y
      · have : x ≠ y := fun e => this (e1.trans e.symm)
        simp [e1, this]
      · simp [e1]
theorem getS_del {x : Int} (y : Int) : ∀ {l : List (Int × ν)}, getS (delS l x) y = if x = y then none else getS l y
  | [] => by simp [delS, getS]
  | p :: r => by
    have ih := getS_del (x := x) y (l := r)
    simp only [delS] at ih ⊢
    by_cases e : p.1 = x
    · simp only [List.filter_cons, e, decide_true, Bool.not_true, Bool.false_eq_true, if_false, getS, ih]
      by_cases e2 : x = y <;> simp [e2]
    · simp only [List.filter_cons, e, decide_false, Bool.not_false, if_true, getS, ih]
      by_cases e2 : p.1 = y
      · have : x ≠ y := fun h => e (e2.trans h.symm)
        simp [e2, this]
      · simp [e2]
theorem getS_put {lt : Int → Int → Bool} {x : Int} {v : ν} (y : Int) (l : List (Int × ν)) : getS (putS lt l x v) y = if x = y then some v else getS l y := by
  unfold putS
  rw [getS_ins y (fun p hp => delS_not hp), getS_del]
  by_cases e : x = y <;> simp [e]
theorem getS_upd {c : Int} {v : ν} (d : Int) : ∀ {l : List (Int × ν)}, getS (updS l c v) d = if c = d then (getS l d).map (fun _ => v) else getS l d
  | [] => by simp [updS, getS]
  | p :: r => by
    have ih := getS_upd (c := c) (v := v) d (l := r)
    simp only [updS] at ih ⊢
    simp only [List.map_cons, getS, ih]
    by_cases e : p.1 = c
    · simp only [e, if_true]
      by_cases e2 : c = d <;> simp [e2]
    · simp only [e, if_false]
      by_cases e2 : p.1 = d
      · have : c ≠ d := fun h => e (e2.trans h.symm)
        simp [e2, this]
      · simp [e2]
end
theorem cli_put {lt : Int → Int → Bool} (A : Tbl) (c : Int) (v : Int × Rows) (d : Int) : cli (putS lt A c v) d = if c = d then v else cli A d := by
  unfold cli
  rw [getS_put]
  by_cases e : c = d <;> simp [e]
theorem cli_upd (A : Tbl) (c : Int) (v : Int × Rows) (d : Int) (h : getS A c ≠ none) : cli (updS A c v) d = if c = d then v else cli A d := by
  unfold cli
  rw [getS_upd]
  by_cases e : c = d
  · subst e
    cases e2 : getS A c with
    | none => exact absurd e2 h
    | some x => simp
  · simp [e]
theorem cli_some {A : Tbl} {c : Int} {n : Int} {r : RowV} (h : getS (cli A c).2 n = some r) : getS A c ≠ none := by
  intro e
  unfold cli at h
  rw [e] at h
  cases h
theorem lenM_cli (A : Tbl) (c : Int) : lenM A c = ((cli A c).2.length : Int) := by
  unfold lenM cli
  cases getS A c <;> simp
/-- What each call does to a client, and to others. -/
theorem cli_ask (A : Tbl) (c n mix d : Int) : cli (askT A c n mix) d = if c = d ∧ (isCl c && isNu n && (askM (cli A c) n mix).2.2) = true then ((cli A c).1, putS ktI.lt (cli A c).2 n ⟨mix, false, Ans.zero⟩) else cli A d := by
  unfold askT
  by_cases h : (isCl c && isNu n && (askM (cli A c) n mix).2.2) = true
  · simp only [h, if_true, cli_put, and_true]
  · simp only [h, if_false, and_false, Bool.false_eq_true]
theorem cli_tell (A : Tbl) (a : Ans) (d : Int) : cli (tellT A a) d = if a.c = d ∧ (tellOk a && decide (tellM (cli A a.c) a.n = 0)) = true then ((cli A a.c).1, tellR (cli A a.c).2 a) else cli A d := by
  unfold tellT
  by_cases h : (tellOk a && decide (tellM (cli A a.c) a.n = 0)) = true
  · simp only [h, if_true, and_true]
    refine cli_upd _ _ _ _ ?_
    have h2 : tellM (cli A a.c) a.n = 0 := by simp at h; exact h.2
    unfold tellM at h2
    cases e : getS (cli A a.c).2 a.n with
    | none => rw [e] at h2; cases h2
    | some r => exact cli_some e
  · simp only [h, if_false, and_false, Bool.false_eq_true]
theorem cli_low (A : Tbl) (c mark d : Int) : cli (lowT A c mark) d = if c = d ∧ (lowOk c mark && !lowBad (cli A c).2 mark && decide ((cli A c).1 < mark)) = true then (mark, (cli A c).2.filter fun p => !decide (p.1 < mark)) else cli A d := by
  unfold lowT
  by_cases h : (lowOk c mark && !lowBad (cli A c).2 mark && decide ((cli A c).1 < mark)) = true
  · simp only [h, if_true, cli_put, and_true]
  · simp only [h, if_false, and_false, Bool.false_eq_true]
end Go.Proofs.Ytakjiicnbocjeaa
namespace Go.Proofs.Ytakjiicnbocjeaa
open Go.RowKit Go.Maps Go.Sort Go.Shelf Go.Proofs
theorem intKeys_dat {ν : Type} (enc : ν → Value) (l : List (Int × ν)) : intKeys (ktI.dat enc l) = l.map (·.1) := by
  simp [KT.dat, intKeys, ktI, Go.intOf]
theorem keys_sorted {ν : Type} {l : List (Int × ν)} (h : l.Pairwise (fun p q => ktI.lt p.1 q.1 = true)) {ss : List Int} (hp : ss.Perm (l.map (·.1))) : ss.mergeSort (fun x y => decide (x ≤ y)) = l.map (·.1) := by
  have hlt : (l.map (·.1)).Pairwise (fun x y : Int => x < y) := by
    rw [List.pairwise_map]
    exact h.imp (fun {p q} e => by have e : decide (p.1 < q.1) = true := e; simpa using e)
  have h1 : (ss.mergeSort (fun x y => decide (x ≤ y))).Pairwise (fun x y => decide (x ≤ y) = true) := List.pairwise_mergeSort (fun a b c h1 h2 => by simp at *; omega) (fun a b => by simp; omega) ss
  have h2 : (ss.mergeSort (fun x y => decide (x ≤ y))).Perm (l.map (·.1)) := (List.mergeSort_perm ss _).trans hp
  refine h2.eq_of_pairwise (le := fun x y : Int => decide (x ≤ y) = true) (fun a b _ _ h1 h2 => by simp at *; omega) h1 (hlt.imp (fun {a b} e => by simp; omega))
theorem sortsI (m : Nat) : AnyZI.SortsIn Try.prog Try.laysSorted_ren Fence.wide m :=
  ⟨fun blk off cap ss W hH hblk hsz => callsIn_wide.2 (AnyM.slices_Sort_int Try.laysSort blk off cap ss W hH hblk hsz),
   fun p cap W => callsIn_wide.2 (AnyM.slices_Sort_int_none Try.laysSort p cap W)⟩
set_option maxHeartbeats 1000000 in
theorem iOrderC {ν : Type} (w : World) (b : Nat) (enc : ν → Value) (l : List (Int × ν)) (h : Mp Try.prog w 3 ktI enc b l) (hl : (l.length : Int) ≤ 1099511627776) :
    Calls Try.prog 35 #[.map (some b)] w fun e w' => ∃ v, e = .returned v ∧ w'.ownsRow w.heap.size 3 1 v l.length (l.map fun p => .int .i64 p.1) ∧ Below w.heap.size w w' := by
  obtain ⟨nn, hown⟩ := id h
  have hord := h.ok idK
  have hsz : Maps.size (ktI.dat enc l) = l.length := dat_size ktI enc l
  have hk : intKeys (ktI.dat enc l) = l.map (·.1) := intKeys_dat enc l
  have hsort : ∀ ss : List Int, ss.Perm (l.map (·.1)) → ss.mergeSort (fun x y => decide (x ≤ y)) = l.map (·.1) := fun ss hp => keys_sorted hord.2 hp
  refine (callsIn_wide (n := 6)).1 ?_
  have hbl := hown.lt
  have hseq : SeqGives Fence.wide 2 Try.prog 73 #[.pointer (some ⟨w.heap.size, 0, none⟩)] encZ (fun ss => ss.Perm (intKeys (ktI.dat enc l))) (Maps.size (ktI.dat enc l)) (w.alloc (.cells #[.map (some b)] 61)) :=
    AnyZI.keys_gives (ρ := Try.laysKeysC_ren) { Try.laysKeysC with } Fence.wide _ trivial rfl (by omega) w.heap.size b nn _ _ (by simp) (by simp) (by
      obtain ⟨es, clock, hb, Ft, hs, hD⟩ := hown
      exact ⟨es, clock, (Below.heap_alloc _ _ b hbl).trans hb, Ft, hs, hD⟩)
  have cK : ∀ mb W, CallsIn Fence.wide 5 Try.prog 55 #[.map mb] W fun e w' => e = .returned (.func (.func 73) #[] #[.pointer (some ⟨W.heap.size, 0, none⟩)]) ∧ w' = W.alloc (.cells #[.map mb] 61) := fun mb W => AnyZI.keys_in Try.laysKeysC Fence.wide 5 trivial rfl mb W
  have cS := AnyZI.sorted_in Try.laysSorted Fence.wide 5 trivial trivial trivial trivial rfl (by omega) (sortsI _) (enters_of Try.func72 (by kernel_rfl) rfl) 73 #[.pointer (some ⟨w.heap.size, 0, none⟩)] trivial (enters_of Try.func73 (by kernel_rfl) rfl) _ _ (by rw [hsz]; unfold maxLen; omega) (by rw [hsz]; omega) _ hseq
  change CallsIn _ _ Try.prog 54 _ _ _ at cS
  have hfK : Fence.wide.fn 55 := trivial
  have hfS : Fence.wide.fn 54 := trivial
  refine callsIn_of_wp Try.func35 rfl trivial ?_ rfl
  simp only [Try.ntmps35, List.size_toArray, List.length_cons, List.length_nil, Nat.reduceAdd, Nat.reduceSub, Array.replicate_succ, Array.replicate_zero, List.push_toArray, List.append_toArray, List.nil_append, List.cons_append]
  gi_wp2_with (first
    | (gi_at_call 55; refine (cK _ _).mono ?_; rintro e w' ⟨rfl, rfl⟩)
    | (gi_at_call 54; refine cS.mono ?_; rintro e w' ⟨v, ss, rfl, hS, hrow, hnil, hb⟩))
  go_ret
  rw [hk] at hS
  rw [hsort ss hS] at hrow
  have hlen : ss.length = l.length := by rw [hS.length_eq]; simp
  rw [hlen, List.map_map] at hrow
  exact ⟨v, rfl, ownsRow_base_a hrow (by simp), ((Below.refl _ w).alloc (Nat.le_refl _) _).trans (hb.mono (by simp))⟩
set_option maxHeartbeats 1000000 in
theorem iOrderR {ν : Type} (w : World) (b : Nat) (enc : ν → Value) (l : List (Int × ν)) (h : Mp Try.prog w 3 ktI enc b l) (hl : (l.length : Int) ≤ 1099511627776) :
    Calls Try.prog 36 #[.map (some b)] w fun e w' => ∃ v, e = .returned v ∧ w'.ownsRow w.heap.size 3 1 v l.length (l.map fun p => .int .i64 p.1) ∧ Below w.heap.size w w' := by
  obtain ⟨nn, hown⟩ := id h
  have hord := h.ok idK
  have hsz : Maps.size (ktI.dat enc l) = l.length := dat_size ktI enc l
  have hk : intKeys (ktI.dat enc l) = l.map (·.1) := intKeys_dat enc l
  have hsort : ∀ ss : List Int, ss.Perm (l.map (·.1)) → ss.mergeSort (fun x y => decide (x ≤ y)) = l.map (·.1) := fun ss hp => keys_sorted hord.2 hp
  refine (callsIn_wide (n := 6)).1 ?_
  have hbl := hown.lt
  have hseq : SeqGives Fence.wide 2 Try.prog 74 #[.pointer (some ⟨w.heap.size, 0, none⟩)] encZ (fun ss => ss.Perm (intKeys (ktI.dat enc l))) (Maps.size (ktI.dat enc l)) (w.alloc (.cells #[.map (some b)] 66)) :=
    AnyZI.keys_gives (ρ := Try.laysKeysR_ren) { Try.laysKeysR with } Fence.wide _ trivial rfl (by omega) w.heap.size b nn _ _ (by simp) (by simp) (by
      obtain ⟨es, clock, hb, Ft, hs, hD⟩ := hown
      exact ⟨es, clock, (Below.heap_alloc _ _ b hbl).trans hb, Ft, hs, hD⟩)
  have cK : ∀ mb W, CallsIn Fence.wide 5 Try.prog 56 #[.map mb] W fun e w' => e = .returned (.func (.func 74) #[] #[.pointer (some ⟨W.heap.size, 0, none⟩)]) ∧ w' = W.alloc (.cells #[.map mb] 66) := fun mb W => AnyZI.keys_in Try.laysKeysR Fence.wide 5 trivial rfl mb W
  have cS := AnyZI.sorted_in Try.laysSorted Fence.wide 5 trivial trivial trivial trivial rfl (by omega) (sortsI _) (enters_of Try.func72 (by kernel_rfl) rfl) 74 #[.pointer (some ⟨w.heap.size, 0, none⟩)] trivial (enters_of Try.func74 (by kernel_rfl) rfl) _ _ (by rw [hsz]; unfold maxLen; omega) (by rw [hsz]; omega) _ hseq
  change CallsIn _ _ Try.prog 54 _ _ _ at cS
  have hfK : Fence.wide.fn 56 := trivial
  have hfS : Fence.wide.fn 54 := trivial
  refine callsIn_of_wp Try.func36 rfl trivial ?_ rfl
  simp only [Try.ntmps36, List.size_toArray, List.length_cons, List.length_nil, Nat.reduceAdd, Nat.reduceSub, Array.replicate_succ, Array.replicate_zero, List.push_toArray, List.append_toArray, List.nil_append, List.cons_append]
  gi_wp2_with (first
    | (gi_at_call 56; refine (cK _ _).mono ?_; rintro e w' ⟨rfl, rfl⟩)
    | (gi_at_call 54; refine cS.mono ?_; rintro e w' ⟨v, ss, rfl, hS, hrow, hnil, hb⟩))
  go_ret
  rw [hk] at hS
  rw [hsort ss hS] at hrow
  have hlen : ss.length = l.length := by rw [hS.length_eq]; simp
  rw [hlen, List.map_map] at hrow
  exact ⟨v, rfl, ownsRow_base_a hrow (by simp), ((Below.refl _ w).alloc (Nat.le_refl _) _).trans (hb.mono (by simp))⟩
end Go.Proofs.Ytakjiicnbocjeaa
namespace Go.Proofs.Ytakjiicnbocjeaa
open Go.RowKit
variable {α : Type}
/-- What a caller keeps between two rounds abides whatever the iterator, and the loop's own record, do. -/
def Ab (B : Nat) (J : World → Prop) : Prop := ∀ W W', J W → Fa B W W' → J W'
/-- A round of loop l: the yield is taken up as a round, which ends in R. -/
abbrev Yd (l : Nat) (args : Array Value) (W : World) (R : Ending → World → Prop) : Prop := YieldAt Fence.wide 0 Try.prog l args W R
/-- The blocks that rounds have made: C, and what has been made from W to W'. -/
def CC (C : Nat → Prop) (W W' : World) (b : Nat) : Prop := C b ∨ (W.heap.size ≤ b ∧ b < W'.heap.size)
/-- THE ITERATOR gf (with what it has captured, lb) GIVES X, one by one, or a part of it if a round says no more; between rounds it reads no block that the rounds may turn (S: the old blocks that they may turn; C: those that rounds have made). -/
def ItX (gf : Nat) (lb : Array Value) (encs : α → Array Value) (X : List α) (S : Nat → Prop) (w : World) : Prop :=
  ∀ (l : Nat) (S' : Nat → Prop) (J Jx : Nat → (Nat → Prop) → World → Prop) (W : World), Below w.heap.size w W → (∀ b, S' b → b < W.heap.size ∧ (b < w.heap.size → S b)) → (∀ k C, Ab W.heap.size (J k C)) →
    (∀ k x C W1, X[k]? = some x → J k C W1 → Yd l (encs x) W1 fun e W' =>
      (e = .returned (.bool true) ∧ J (k + 1) (CC C W1 W') W' ∧ Fr (fun b => S' b ∨ C b) W1 W') ∨ (e = .returned (.bool false) ∧ Jx (k + 1) (CC C W1 W') W' ∧ Fr (fun b => S' b ∨ C b) W1 W')) →
    (∀ k C, Ab W.heap.size (Jx k C)) →
    J 0 (fun _ => False) W →
    Calls Try.prog gf (#[.func (.yield l) #[] #[]] ++ lb) W fun e W' => (∃ v, e = .returned v) ∧ ((∃ C, J X.length C W') ∨ ∃ k C, k ≤ X.length ∧ Jx k C W')
theorem ItX.mono {gf : Nat} {lb : Array Value} {encs : α → Array Value} {X : List α} {S S0 : Nat → Prop} {w : World} (h : ItX gf lb encs X S w) (hS : ∀ b, S0 b → S b) : ItX gf lb encs X S0 w :=
  fun l S' J Jx W hW hS' => h l S' J Jx W hW (fun b hb => ⟨(hS' b hb).1, fun hl => hS b ((hS' b hb).2 hl)⟩)
/-- How a round's body ends: C0: what the rounds had made when this one began, in W0. -/
def bodyEnd (S C0 : Nat → Prop) (W0 : World) (I : Nat → (Nat → Prop) → World → Prop) (Ix : Code → Nat → (Nat → Prop) → World → Prop) (k : Nat) (W : World) : Exit → Act → World → Prop
  | .normal, _, W' => Fr (fun b => S b ∨ CC C0 W0 W b) W W' ∧ I k (CC C0 W0 W') W'
  | .ret, _, W' => Fr (fun b => S b ∨ CC C0 W0 W b) W W' ∧ Ix .ret k (CC C0 W0 W') W'
  | .exit id, _, W' => Fr (fun b => S b ∨ CC C0 W0 W b) W W' ∧ Ix (.exit id) k (CC C0 W0 W') W'
  | .goto t, _, W' => Fr (fun b => S b ∨ CC C0 W0 W b) W W' ∧ Ix (.goto t) k (CC C0 W0 W') W'
  | .panic _, _, _ => False
  | .outgrown, _, _ => False
/-- Behind the assignment to the loop's variables: what the body owes. -/
def Took (w : World) (S C : Nat → Prop) (I : Nat → (Nat → Prop) → World → Prop) (Ix : Code → Nat → (Nat → Prop) → World → Prop) (k l : Nat) (W : World) (body : Code) (a' : Act) (W' : World) : Prop :=
  Fr (fun b => S b ∨ C b) W W' ∧ I k C W' ∧ ∀ Wb, I k C Wb → Fr S w Wb → Fa w.heap.size W' Wb → W.heap.size ≤ Wb.heap.size → w.heap.size ≤ W.heap.size → (∀ b, C b → w.heap.size ≤ b) → (∃ r, Wb.heap[l]? = some (.loop r)) →
    body.wpIn (Fence.wide.inRound l) 0 Try.prog (bodyEnd S C W I Ix (k + 1) Wb) a' Wb
theorem Took.mk {w : World} {S C : Nat → Prop} {I : Nat → (Nat → Prop) → World → Prop} {Ix : Code → Nat → (Nat → Prop) → World → Prop} {k l : Nat} {W : World} {body : Code} {a' : Act} {W' : World}
    (h1 : Fr (fun b => S b ∨ C b) W W') (h2 : I k C W') (h3 : ∀ Wb, I k C Wb → Fr S w Wb → Fa w.heap.size W' Wb → W.heap.size ≤ Wb.heap.size → w.heap.size ≤ W.heap.size → (∀ b, C b → w.heap.size ≤ b) → (∃ r, Wb.heap[l]? = some (.loop r)) →
    body.wpIn (Fence.wide.inRound l) 0 Try.prog (bodyEnd S C W I Ix (k + 1) Wb) a' Wb) : Took w S C I Ix k l W body a' W' := ⟨h1, h2, h3⟩
theorem frAlloc {B : Nat} {w : World} (o : Obj) : Fa B w (w.alloc o) := (Fr.refl _ _).alloc o
theorem frPut {B : Nat} {w : World} {l : Nat} {o : Obj} (o' : Obj) (hB : B ≤ l) (hl : w.heap[l]? = some o) (ho : auxObj o = true) : Fa B w (w.putObj l o') := (Fr.refl _ _).putObj (fun _ => ⟨hB, o, hl, ho⟩) o'
theorem Ab.fr {S : Nat → Prop} {w : World} {B : Nat} (hB : w.heap.size ≤ B) : Ab B (fun W => Fr S w W) := fun _ _ h hf => Fa.old hf h hB
theorem Ab.and {B : Nat} {J J' : World → Prop} (h : Ab B J) (h' : Ab B J') : Ab B (fun W => J W ∧ J' W) := fun W W' hs hf => ⟨h W W' hs.1 hf, h' W W' hs.2 hf⟩
theorem Fa.up {B B' : Nat} {W W' : World} (h : Fa B' W W') (hB : B ≤ B') : Fa B W W' := Fr.mono h fun _ _ ⟨a, b⟩ => ⟨Nat.le_trans hB a, b⟩
/-- **A range over an iterator that gives X**, at the outermost level of a function: the loop's variables may be boxed (W': behind the assignment; Wb: where the body begins). C: the blocks that the rounds have made. -/
theorem rangeX {g : Operand} {ps : Array Tmp} {assign body : Code} {Q : Exit → Act → World → Prop} {a : Act} {w w0 : World} {n : Nat}
    {gf : Nat} {lb : Array Value} (hg : a.eval g = .func (.func gf) #[] lb) (eg : ∀ args w, (callFunc gf args).run Try.prog w = .ok (.enter gf args) w)
    {encs : α → Array Value} {X : List α} {S : Nat → Prop} (hseq : ItX gf lb encs X S w0) (hb0 : Below w0.heap.size w0 w) (hS : ∀ b, S b → b < w.heap.size) (hps : ∀ x, (encs x).size = ps.size)
    (I : Nat → (Nat → Prop) → World → Prop) (Ix : Code → Nat → (Nat → Prop) → World → Prop) (hI : ∀ k C, Ab w.heap.size (I k C)) (hIx : ∀ c k C, Ab w.heap.size (Ix c k C)) (h0 : I 0 (fun _ => False) w)
    (hround : ∀ (l k : Nat) (x : α) (C : Nat → Prop) (W : World), X[k]? = some x → w.heap.size ≤ l → I k C W → Fr S w W →
      assign.wpIn (Fence.wide.inRound l) 0 Try.prog (Exit.then (Took w S C I Ix k l W body) (fun _ _ _ => False)) { tmps := (ps.zip (encs x)).foldl (fun t (p, v) => t.setIfInBounds p v) a.tmps, defers := [] } W)
    (hdone : ∀ (D : Nat) (C : Nat → Prop) (W : World), w.heap.size ≤ D → I X.length C W → Fr S w W → W.heap[D]? = some (.deferred (some [])) → Q .normal { a with defers := { target := .collected D, args := #[] } :: a.defers } W)
    (hstop : ∀ (D : Nat) (c : Code) (k : Nat) (C : Nat → Prop) (W : World), w.heap.size ≤ D → k ≤ X.length → Ix c k C W → Fr S w W → W.heap[D]? = some (.deferred (some [])) →
      c.wpIn Fence.wide n Try.prog Q { a with defers := { target := .collected D, args := #[] } :: a.defers } W) :
    (Code.rangeFunc g ps assign body).wpIn Fence.wide n Try.prog Q a w := by
  refine wpIn_rangeFunc ?_
  intro fn hfn
  obtain ⟨rec, hrec⟩ : ∃ rec : LoopState → Option Code → Loop, rec = fun st pe => { state := st, pending := pe, fn, tmps := a.tmps, params := ps, assign, body, defers := w.heap.size } := ⟨_, rfl⟩
  obtain ⟨W1, hW1⟩ : ∃ W1, (w.alloc (.deferred (some []))).alloc (.loop (rec .ready none)) = W1 := ⟨_, rfl⟩
  have hs1 : W1.heap.size = w.heap.size + 2 := by rw [← hW1]; simp
  have hL1 : W1.heap[w.heap.size + 1]? = some (.loop (rec .ready none)) := by
    rw [← hW1]; have := World.alloc_heap_new (w.alloc (.deferred (some []))) (.loop (rec .ready none)); rwa [World.size_alloc] at this
  have hD1 : W1.heap[w.heap.size]? = some (.deferred (some [])) := by
    rw [← hW1]; exact (Below.heap_alloc _ _ _ (by simp)).trans (World.alloc_heap_new w _)
  have hf1 : Fa w.heap.size w W1 := by rw [← hW1]; exact ((Fr.refl _ _).alloc _).alloc _
  have hr1 : Fr S w W1 := by rw [← hW1]; exact ((Fr.refl _ _).alloc _).alloc _
  have hb1 : Below w0.heap.size w0 W1 := by
    rw [← hW1]; exact hb0.trans ((((Below.refl _ w).alloc (Nat.le_refl _) _).alloc (by simp) _).mono hb0.size)
  refine ⟨w.heap.size + 1, [{ target := .collected w.heap.size, args := #[] }], W1, { target := .fn (.func gf) lb, args := #[.func (.yield (w.heap.size + 1)) #[] #[]] }, W1, gf,
    #[.func (.yield (w.heap.size + 1)) #[] #[]] ++ lb, W1, ?_, ?_, fun _ _ => trivial, ?_, (fun h => by cases h), ?_⟩
  · rw [← hW1, hrec]; exact run_enterLoop_outer _ _ _ _ _
  · simp only [resolve, hg]
    simp [go_sem]
  · simp [invoke, go_sem, eg]
  have hB : w.heap.size ≤ W1.heap.size := by omega
  have hDL : ∀ {st pe A B}, A.heap[w.heap.size + 1]? = some (.loop (rec st pe)) → A.heap[w.heap.size]? = some (.deferred (some [])) → Fa W1.heap.size A B →
      B.heap[w.heap.size + 1]? = some (.loop (rec st pe)) ∧ B.heap[w.heap.size]? = some (.deferred (some [])) := fun hl hd hf =>
    ⟨hf.at_ hl (fun hx => by have := hx.1; omega), hf.at_ hd (fun hx => by have := hx.1; omega)⟩
  refine callsIn_wide.2 ((hseq (w.heap.size + 1) (fun b => S b ∨ b = w.heap.size + 1)
    (fun k C W => I k C W ∧ Fr S w W ∧ (∀ b, C b → w.heap.size + 2 ≤ b) ∧ W.heap[w.heap.size + 1]? = some (.loop (rec .ready none)) ∧ W.heap[w.heap.size]? = some (.deferred (some [])))
    (fun k C W => ∃ c, Ix c k C W ∧ Fr S w W ∧ W.heap[w.heap.size + 1]? = some (.loop (rec .done (some c))) ∧ W.heap[w.heap.size]? = some (.deferred (some [])))
    W1 hb1 ?_ ?_ ?_ ?_ ⟨hI 0 _ _ _ h0 hf1, hr1, fun _ h => h.elim, hL1, hD1⟩).mono ?_)
  · rintro b (h | rfl)
    · have := hS b h
      exact ⟨by omega, fun _ => h⟩
    · exact ⟨by omega, fun h => by have := hb0.size; omega⟩
  · rintro k C A B ⟨hi, hr, hC, hl, hd⟩ hf
    obtain ⟨hl', hd'⟩ := hDL hl hd hf
    exact ⟨hI k C _ _ hi (Fa.up hf hB), Fa.old hf hr hB, hC, hl', hd'⟩
  · -- a round
    rintro k x C W hx ⟨hi, hr, hC, hl, hd⟩
    have hy := run_yield (P := Try.prog) (args := encs x) hl (by rw [hrec]; exact hps x)
    rw [hrec] at hy
    have hltW : w.heap.size + 1 < W.heap.size := (Array.getElem?_eq_some_iff.1 hl).1
    have nS : ∀ (A B : World), W.heap.size ≤ A.heap.size → ¬ (S (w.heap.size + 1) ∨ CC C A B (w.heap.size + 1)) ∧ ¬ (S w.heap.size ∨ CC C A B w.heap.size) := fun A B hA => by
      constructor
      · rintro (e | e | e)
        · have := hS _ e; omega
        · have := hC _ e; omega
        · omega
      · rintro (e | e | e)
        · have := hS _ e; omega
        · have := hC _ e; omega
        · omega
    refine ⟨fn, _, assign, body, hy, roundIn_of_wpIn hfn (wpIn_mono (hround _ k x C W hx (by omega) hi hr) ?_)⟩
    rintro e0 a' Wa h0
    cases e0 with
    | normal => ?_
    | _ => exact h0
    obtain ⟨hra, hia, hbody⟩ := h0
    have hla := hra.at_ hl (fun e => e.elim (fun e => by have := hS _ e; omega) (fun e => by have := hC _ e; omega))
    have hda := hra.at_ hd (fun e => e.elim (fun e => by have := hS _ e; omega) (fun e => by have := hC _ e; omega))
    refine ⟨_, run_beginRound hla (by rw [hrec]), ?_⟩
    obtain ⟨Wb, hWb⟩ : ∃ Wb, Wa.putObj (w.heap.size + 1) (.loop { rec .ready none with state := .busy }) = Wb := ⟨_, rfl⟩
    rw [hWb]
    have hlt : w.heap.size + 1 < Wa.heap.size := (Array.getElem?_eq_some_iff.1 hla).1
    have hszb : Wb.heap.size = Wa.heap.size := by rw [← hWb]; simp
    have hlb : Wb.heap[w.heap.size + 1]? = some (.loop { rec .ready none with state := .busy }) := by rw [← hWb]; exact World.putObj_heap_same hlt
    have hdb : Wb.heap[w.heap.size]? = some (.deferred (some [])) := by rw [← hWb]; exact (World.putObj_heap_other (by omega)).trans hda
    have hfb : Fa w.heap.size Wa Wb := by rw [← hWb]; exact frPut _ (by omega) hla rfl
    have hra' : Fr S w Wa := hr.trans' hra (fun b hb e => e.elim id (fun e => by have := hC _ e; omega))
    have hrb : Fr S w Wb := Fa.old hfb hra' (Nat.le_refl _)
    have hrW : Fr (fun b => (S b ∨ b = w.heap.size + 1) ∨ C b) W Wb := by
      rw [← hWb]; exact (hra.mono (fun b _ h => h.elim (fun h => .inl (.inl h)) .inr)).putObj (fun _ => .inl (.inr rfl)) _
    have hszW : W.heap.size ≤ Wb.heap.size := by rw [hszb]; exact hra.size
    refine wpIn_mono (hbody Wb (hI k C _ _ hia hfb) hrb hfb hszW hr.size (fun b e => by have := hC b e; omega) ⟨_, hlb⟩) ?_
    have fin : ∀ (jump : Option Code) (W3 : World), Fr (fun b => S b ∨ CC C W Wb b) Wb W3 →
        (Instr.endRound (w.heap.size + 1) jump).run Try.prog W3 = .ok (.bool jump.isNone) (W3.putObj (w.heap.size + 1) (.loop (rec (if jump.isNone then .ready else .done) jump))) ∧
        Fa w.heap.size W3 (W3.putObj (w.heap.size + 1) (.loop (rec (if jump.isNone then .ready else .done) jump))) ∧
        Fr S w (W3.putObj (w.heap.size + 1) (.loop (rec (if jump.isNone then .ready else .done) jump))) ∧
        Fr (fun b => (S b ∨ b = w.heap.size + 1) ∨ C b) W (W3.putObj (w.heap.size + 1) (.loop (rec (if jump.isNone then .ready else .done) jump))) ∧
        (∀ b, CC C W W3 b → w.heap.size + 2 ≤ b) ∧ CC C W (W3.putObj (w.heap.size + 1) (.loop (rec (if jump.isNone then .ready else .done) jump))) = CC C W W3 ∧
        (W3.putObj (w.heap.size + 1) (.loop (rec (if jump.isNone then .ready else .done) jump))).heap[w.heap.size + 1]? = some (.loop (rec (if jump.isNone then .ready else .done) jump)) ∧
        (W3.putObj (w.heap.size + 1) (.loop (rec (if jump.isNone then .ready else .done) jump))).heap[w.heap.size]? = some (.deferred (some [])) := fun jump W3 h3 => by
      have hn := nS W Wb (Nat.le_refl _)
      have hl3 := h3.at_ hlb hn.1
      have hd3 := h3.at_ hdb hn.2
      have he := run_endRound (P := Try.prog) jump hl3
      rw [hrec] at he ⊢
      refine ⟨he, frPut _ (by omega) hl3 rfl, ?_, ?_, ?_, ?_, World.putObj_heap_same (Array.getElem?_eq_some_iff.1 hl3).1, (World.putObj_heap_other (by omega)).trans hd3⟩
      · refine (hrb.trans' h3 ?_).putObj (fun h => by omega) _
        rintro b hb (e | e | e)
        · exact e
        · have := hC _ e; omega
        · omega
      · refine (hrW.trans' h3 ?_).putObj (fun _ => .inl (.inr rfl)) _
        rintro b hb (e | e | e)
        · exact .inl (.inl e)
        · exact .inr e
        · omega
      · rintro b (e | e)
        · exact hC _ e
        · omega
      · funext b; simp [CC]
    rintro e a3 W3 hp
    cases e with
    | normal =>
      obtain ⟨h3, hi3⟩ := hp
      obtain ⟨e1, e2, e3, e4, e7, e8, e5, e6⟩ := fin none W3 h3
      exact ⟨_, _, e1, .inl ⟨rfl, ⟨by rw [e8]; exact hI _ _ _ _ hi3 e2, e3, by rw [e8]; exact e7, e5, e6⟩, e4⟩⟩
    | ret =>
      obtain ⟨h3, hi3⟩ := hp
      obtain ⟨e1, e2, e3, e4, e7, e8, e5, e6⟩ := fin (some .ret) W3 h3
      exact ⟨_, _, e1, .inr ⟨rfl, ⟨.ret, by rw [e8]; exact hIx _ _ _ _ _ hi3 e2, e3, e5, e6⟩, e4⟩⟩
    | exit id =>
      obtain ⟨h3, hi3⟩ := hp
      obtain ⟨e1, e2, e3, e4, e7, e8, e5, e6⟩ := fin (some (.exit id)) W3 h3
      exact ⟨_, _, e1, .inr ⟨rfl, ⟨.exit id, by rw [e8]; exact hIx _ _ _ _ _ hi3 e2, e3, e5, e6⟩, e4⟩⟩
    | goto t =>
      obtain ⟨h3, hi3⟩ := hp
      obtain ⟨e1, e2, e3, e4, e7, e8, e5, e6⟩ := fin (some (.goto t)) W3 h3
      exact ⟨_, _, e1, .inr ⟨rfl, ⟨.goto t, by rw [e8]; exact hIx _ _ _ _ _ hi3 e2, e3, e5, e6⟩, e4⟩⟩
    | panic ch => exact hp.elim
    | outgrown => exact hp.elim
  · rintro k C A B ⟨c, hi, hr, hl, hd⟩ hf
    obtain ⟨hl', hd'⟩ := hDL hl hd hf
    exact ⟨c, hIx c k C _ _ hi (Fa.up hf hB), Fa.old hf hr hB, hl', hd'⟩
  · -- behind the iterator
    rintro e W2 ⟨⟨v, rfl⟩, (⟨C, hi, hr, _, hl, hd⟩ | ⟨k, C, hk, c, hi, hr, hl, hd⟩)⟩
    · have he := run_endLoop (P := Try.prog) hl (by rw [hrec]; simp)
      rw [hrec] at he
      exact ⟨none, _, he, hdone _ C _ (Nat.le_refl _) (hI _ _ _ _ hi (frPut _ (by omega) hl rfl)) (hr.putObj (fun h => by omega) _) ((World.putObj_heap_other (by omega)).trans hd)⟩
    · have he := run_endLoop (P := Try.prog) hl (by rw [hrec]; simp)
      rw [hrec] at he
      exact ⟨some c, _, he, hstop _ c k C _ (Nat.le_refl _) hk (hIx c k C _ _ hi (frPut _ (by omega) hl rfl)) (hr.putObj (fun h => by omega) _) ((World.putObj_heap_other (by omega)).trans hd)⟩
def ZI (_ : Nat) (_ : Nat → Prop) (_ : World) : Prop := True
def ZX (_ : Code) (_ : Nat) (_ : Nat → Prop) (_ : World) : Prop := False
theorem boxed_below {B : Nat} {w w' : World} {b : Nat} {t : TypeId} {v : Value} (h : Boxed w b t v) (hb : Below B w w') (h1 : b < B) : Boxed w' b t v := (hb.block b h1).trans h
def encP (p : Int × Int) : Array Value := #[.int .i64 p.1, .int .i64 p.2]
theorem row_slice {w : World} {base : Nat} {e : TypeId} {size n : Nat} {v : Value} {xs : List Value} (h : w.ownsRow base e size v n xs) : ∃ a c, v = .slice a n c := by
  rcases h.2 with ⟨e1, e2⟩ | ⟨_, _, _, e1, _⟩
  · exact ⟨_, _, by rw [e1, e2]⟩
  · exact ⟨_, _, e1⟩
theorem row_addr {w : World} {base : Nat} {e : TypeId} {size n c : Nat} {a : Option Addr} {xs : List Value} (h : w.ownsRow base e size (.slice a n c) n xs) (hn : 0 < n) : ∃ g, a = some ⟨g, 0, none⟩ ∧ base ≤ g ∧ g < w.heap.size := by
  obtain ⟨g, c', e1, h1, h2⟩ := h.form hn
  injection e1 with e1
  exact ⟨g, e1, h1, h2⟩
end Go.Proofs.Ytakjiicnbocjeaa
namespace Go.Proofs.Ytakjiicnbocjeaa
open Go.RowKit Go.Maps
theorem iNumbers (p : Option Addr) (w : World) : Calls Try.prog 32 #[.pointer p] w fun e w' =>
    e = .returned (.func (.func 51) #[] #[.pointer (some ⟨w.heap.size, 0, none⟩)]) ∧ w' = w.alloc (.cells #[.pointer p] 23) := by
  go_enter Try.func32, Try.ntmps32
  go_wp2
  go_ret
  exact ⟨rfl, rfl⟩
attribute [local go_sem] Oper.semAt_some
theorem iNumbers1_no (S : Nat → Prop) (w : World) (Bt : Nat) (hBt : Boxed w Bt 23 (.pointer none)) :
    ItX 51 #[.pointer (some ⟨Bt, 0, none⟩)] encP [] S w := by
  intro lp S' J Jx W hW hS' hJ hY hJx h0
  have hcB := (boxed_below hBt hW hBt.lt).cell
  have hfn : ∀ f, Fence.wide.fn f := fun _ => trivial
  have hdp : Fence.wide.depth.isSome = false := rfl
  clear hY hS'
  refine (callsIn_wide (n := 0)).1 ?_
  refine callsIn_of_wp Try.func51 rfl trivial ?_ rfl
  simp only [Try.ntmps51, List.size_toArray, List.length_cons, List.length_nil, Nat.reduceAdd, Nat.reduceSub, Array.replicate_succ, Array.replicate_zero, List.push_toArray, List.append_toArray, List.nil_append, List.cons_append]
  gi_wp2_with (gi_at_call 24; refine (callsIn_wide.2 (imade_no _)).mono ?_; rintro e w1 ⟨rfl, rfl⟩)
  refine bodyPost_ret (results_none rfl _ _ _) rfl ?_
  exact ⟨⟨_, rfl⟩, .inl ⟨_, h0⟩⟩
set_option maxHeartbeats 1000000 in
theorem iOpen1_no (S : Nat → Prop) (w : World) (Bt : Nat) (hBt : Boxed w Bt 23 (.pointer none)) :
    ItX 31 #[.pointer (some ⟨Bt, 0, none⟩)] encP [] S w := by
  intro lp S' J Jx W hW hS' hJ hY hJx h0
  have hcB := ((boxed_below hBt hW hBt.lt).alloc (.cells #[.func (.yield lp) #[] #[]] 42)).cell
  have hfn : ∀ f, Fence.wide.fn f := fun _ => trivial
  have hdp : Fence.wide.depth.isSome = false := rfl
  clear hY hS'
  refine (callsIn_wide (n := 0)).1 ?_
  refine callsIn_of_wp_marks Try.func31 rfl trivial ?_ rfl
  simp only [Try.ntmps31, List.size_toArray, List.length_cons, List.length_nil, Nat.reduceAdd, Nat.reduceSub, Array.replicate_succ, Array.replicate_zero, List.push_toArray, List.append_toArray, List.nil_append, List.cons_append]
  gi_wp2_with (gi_at_call 32; refine (callsIn_wide.2 (iNumbers _ _)).mono ?_; rintro e w1 ⟨rfl, rfl⟩)
  obtain ⟨W1, hW1⟩ : ∃ W1, W.alloc (.cells #[.func (.yield lp) #[] #[]] 42) = W1 := ⟨_, rfl⟩
  have hs1 : W1.heap.size = W.heap.size + 1 := by rw [← hW1]; simp
  have hb1 : Below W.heap.size W W1 := by rw [← hW1]; exact (Below.refl _ _).alloc (Nat.le_refl _) _
  rw [hW1]
  have hT := Boxed.new W1 23 (.pointer none)
  rw [hs1] at hT
  obtain ⟨W2, hW2⟩ : ∃ W2, W1.alloc (.cells #[.pointer none] 23) = W2 := ⟨_, rfl⟩
  have hs2 : W2.heap.size = W.heap.size + 2 := by rw [← hW2]; simp; omega
  have hb2 : Below W.heap.size W W2 := by rw [← hW2]; exact hb1.alloc (by omega) _
  rw [hW2] at hT ⊢
  have h02 := hJ 0 _ _ _ h0 (Fr.below hb2)
  clear hW1 hW2 hb1 hs1 hcB
  refine rangeX (w0 := W2) (X := ([] : List (Int × Int))) (S := fun _ => False) rfl (enters_of Try.func51 (by kernel_rfl) rfl)
    (iNumbers1_no _ _ _ hT) (Below.refl _ _) (fun b hb => hb.elim) (fun _ => rfl)
    (fun _ _ W' => J 0 (fun _ => False) W') ZX (fun k C W' W'' h hf => hJ 0 _ _ _ h (Fa.up hf (by omega))) (fun c k C W W' hs hf => hs) h02 ?round ?done ?stop
  case round => intro lp k x C W hx; simp at hx
  case stop => intro D c k C W hD hk hX; exact hX.elim
  case done =>
    rintro D C W3 hD hj hr hK
    gi_wp2_with fail
    have hj2 := hJ 0 _ _ _ hj (frPut (B := W.heap.size) (.deferred none) (by omega) hK rfl)
    refine ⟨by simp, .inl ⟨_, _, rfl, run_takeDeferred hK, ?_⟩⟩
    exact ⟨_, results_none rfl _ _ _, ⟨_, rfl⟩, .inl ⟨_, hj2⟩⟩
theorem iPack_no (w : World) : Calls Try.prog 17 #[.pointer none] w fun e w' => e = .returned (.slice none 0 0) ∧ w = w' := by
  go_enter Try.func17, Try.ntmps17
  go_wp2_with (go_at_call 24; refine (imade_no _).mono ?_; rintro e w' ⟨rfl, rfl⟩)
  go_ret
  exact ⟨rfl, rfl⟩
end Go.Proofs.Ytakjiicnbocjeaa
namespace Go.Proofs.Ytakjiicnbocjeaa
open Go.RowKit Go.Maps
def nums (l : List (Int × Cl)) : List (Int × Int) := l.flatMap fun p => p.2.rows.map fun q => (p.1, q.1)
def offs (l : List (Int × Cl)) (k : Nat) : Nat := (nums (l.take k)).length
theorem offs_zero (l : List (Int × Cl)) : offs l 0 = 0 := by simp [offs, nums]
theorem offs_succ {l : List (Int × Cl)} {k : Nat} {p : Int × Cl} (h : l[k]? = some p) : offs l (k + 1) = offs l k + p.2.rows.length := by
  obtain ⟨hk, rfl⟩ := List.getElem?_eq_some_iff.1 h
  unfold offs nums
  rw [List.take_add_one, h, List.flatMap_append, List.length_append]
  simp
theorem offs_all (l : List (Int × Cl)) : offs l l.length = (nums l).length := by simp [offs]
theorem nums_get {l : List (Int × Cl)} {k j : Nat} {p : Int × Cl} {q : Int × RowV} (h : l[k]? = some p) (hq : p.2.rows[j]? = some q) : (nums l)[offs l k + j]? = some (p.1, q.1) := by
  obtain ⟨hk, rfl⟩ := List.getElem?_eq_some_iff.1 h
  have e : l = l.take k ++ l[k] :: l.drop (k + 1) := by
    rw [List.getElem_cons_drop]; simp
  have e2 : nums l = nums (l.take k) ++ (l[k].2.rows.map fun q => (l[k].1, q.1)) ++ nums (l.drop (k + 1)) := by
    conv => lhs; rw [e]
    unfold nums
    rw [List.flatMap_append, List.flatMap_cons, List.append_assoc]
  have hj := (List.getElem?_eq_some_iff.1 hq).1
  rw [e2, List.append_assoc, List.getElem?_append_right (by unfold offs; omega), List.getElem?_append_left (by simp; unfold offs; omega)]
  have : offs l k + j - (nums (l.take k)).length = j := by unfold offs; omega
  rw [this]
  simp [hq]
attribute [local go_sem] Oper.semAt_some
set_option maxHeartbeats 4000000 in
theorem iNumbers1 (S : Nat → Prop) (w : World) (Bt g m : Nat) (l : List (Int × Cl)) (hBt : Boxed w Bt 23 (.pointer (some ⟨g, 0, none⟩))) (h : Tab w g m l) (h64 : l.length ≤ 64) (h128 : ∀ p ∈ l, p.2.rows.length ≤ 128)
    (n1 : ¬ S Bt) (n2 : ¬ S g) (n3 : ¬ S m) (n4 : ∀ p ∈ l, ¬ S p.2.b) :
    ItX 51 #[.pointer (some ⟨Bt, 0, none⟩)] encP (nums l) S w := by
  intro lp S' J Jx W hW hS' hJ hY hJx h0
  have hBW := boxed_below hBt hW hBt.lt
  have hTW : Tab W g m l := ⟨(hW.block _ h.glt).trans h.box, h.map.below hW h.map.lt, fun p hp => (h.rows p hp).below hW (h.rows p hp).lt, h.nb, h.dis⟩
  have s1 : ¬ S' Bt := fun e => n1 ((hS' _ e).2 hBt.lt)
  have s2 : ¬ S' g := fun e => n2 ((hS' _ e).2 h.glt)
  have s3 : ¬ S' m := fun e => n3 ((hS' _ e).2 h.map.lt)
  have s4 : ∀ p ∈ l, ¬ S' p.2.b := fun p hp e => n4 p hp ((hS' _ e).2 (h.rows p hp).lt)
  have HS := Lib.hid hS'; have HT := Lib.hid hTW; have HB := Lib.hid hBW; have S4 := Lib.hid s4
  have hcB := hBW.cell
  have hcT := hTW.cell
  have hord := Lib.hid (iOrderC W m Cl.enc l hTW.map (by omega))
  have hfn : ∀ f, Fence.wide.fn f := fun _ => trivial
  have hdp : Fence.wide.depth.isSome = false := rfl
  clear hBt h n1 n2 n3 n4 hS' hTW hBW s4 hW
  refine (callsIn_wide (n := 0)).1 ?_
  refine callsIn_of_wp Try.func51 rfl trivial ?_ rfl
  simp only [Try.ntmps51, List.size_toArray, List.length_cons, List.length_nil, Nat.reduceAdd, Nat.reduceSub, Array.replicate_succ, Array.replicate_zero, List.push_toArray, List.append_toArray, List.nil_append, List.cons_append]
  gi_wp2_with (first
    | (gi_at_call 24; refine (callsIn_wide.2 (imade _ g m hcT)).mono ?_; rintro e w1 ⟨rfl, rfl⟩)
    | (gi_at_call 35; refine (callsIn_wide.2 hord.out).mono ?_; rintro e w1 ⟨v, rfl, hown, hb⟩; obtain ⟨a, c, rfl⟩ := row_slice hown))
  have hJ1 := hJ 0 _ _ _ h0 (Fr.below hb)
  have hF1 := Fr.below (S := fun _ => False) hb
  have hT1 := HT.out.fr hF1 (fun h => h) (fun h => h) (fun _ _ h => h)
  have hB1 := hF1.box HB.out (fun h => h)
  have HW1 : Hid (W.heap.size ≤ w1.heap.size) := Lib.hid hb.size
  have HO := Lib.hid hown; have HT1 := Lib.hid hT1; have HB1 := Lib.hid hB1; have HJ := Lib.hid hJ1
  have hz := Lib.hid (offs_zero l)
  clear hord h0 hcB hcT hF1 hT1 hB1 hown HT HB hb hJ1
  gi_loopw [16] (fun i wr => ∃ (k : Nat) (C : Nat → Prop), k ≤ l.length ∧ i = .int .i64 k ∧ J (offs l k) C wr ∧ (∀ b, C b → w1.heap.size ≤ b ∧ b < wr.heap.size) ∧ Fr (fun b => S' b ∨ C b) w1 wr) (fun i _ => l.length - (intOf i).toNat)
  case atStart => exact ⟨0, _, Nat.zero_le _, rfl, by rw [hz.out]; exact HJ.out, fun _ h => False.elim h, Fr.refl _ _⟩
  case round =>
    obtain ⟨k, C, hk, rfl, hJr, hC, hkp⟩ := hrel
    by_cases hlt : k < l.length
    · obtain ⟨p, hp⟩ : ∃ p, l[k]? = some p := ⟨l[k], List.getElem?_eq_getElem hlt⟩
      have hmem : p ∈ l := List.mem_of_getElem? hp
      have m1 : ¬ (S' Bt ∨ C Bt) := fun e => e.elim s1 (fun e => by have := hC _ e; have := HB1.out.lt; omega)
      have m2 : ¬ (S' g ∨ C g) := fun e => e.elim s2 (fun e => by have := hC _ e; have := HT1.out.glt; omega)
      have m3 : ¬ (S' m ∨ C m) := fun e => e.elim s3 (fun e => by have := hC _ e; have := HT1.out.map.lt; omega)
      have m4 : ∀ q ∈ l, ¬ (S' q.2.b ∨ C q.2.b) := fun q hq e => e.elim (S4.out q hq) (fun e => by have := hC _ e; have := (HT1.out.rows q hq).lt; omega)
      obtain ⟨g', rfl, hg1, hg2⟩ := row_addr HO.out (by omega)
      have m5 : ¬ (S' g' ∨ C g') := fun e => e.elim (fun e => by have := (HS.out _ e).1; omega) (fun e => by have := hC _ e; omega)
      have hTr := HT1.out.fr hkp m2 m3 m4
      have hBr := (hkp.box HB1.out m1).cell
      have hgr := hTr.cell
      have hownr := hkp.row HO.out (fun b e => by obtain rfl : g' = b := (by simpa [Value.ownBlock] using e); exact m5)
      have hcx : wr.cell? ⟨g', k, none⟩ = some (.int .i64 p.1) := by
        have := hownr.cellAt (g := g') (j := k) (by simpa using hlt)
        rw [this]; simp [hp]
      have hlk : (Instr.lookup 61 (.map (some m)) (.int .i64 p.1) false).run Try.prog wr = .ok p.2.enc wr := by
        have := hTr.map.look idK Try.underlying61 (zeroCl wr) ((hTr.map.ok idK).1 p hmem)
        rw [getS_of (v := p.2) (mp_nd hTr.map) hmem] at this
        exact this
      have hlk2 : (Instr.lookup 61 (.map (some m)) (.int .i64 p.1) false).run Try.prog wr = .ok (.agg #[.int .i64 p.2.mark, .map (some p.2.b)]) wr := hlk
      have hcl1 := clField1 wr (.int .i64 p.2.mark) (.map (some p.2.b))
      have hord := Lib.hid (iOrderR wr p.2.b RowV.enc p.2.rows (hTr.rows p hmem) (by have := h128 p hmem; omega))
      have HC := Lib.hid hC; have HK := Lib.hid hkp; have HM := Lib.hid hmem; have HP := Lib.hid hp; have HJR := Lib.hid hJr; have HTr := Lib.hid hTr
      have hl9 : p.2.rows.length ≤ 128 := h128 p hmem
      clear hlk hC hkp hmem hp hJr hTr hownr
      gi_wp2_with (gi_at_call 36; refine (callsIn_wide.2 hord.out).mono ?_; rintro e w2 ⟨v, rfl, hown2, hb2⟩; obtain ⟨a2, c2, rfl⟩ := row_slice hown2)
      have hJ2 := hJ _ _ _ _ HJR.out (Fr.below hb2)
      have HO2 := Lib.hid hown2; have HB2 := Lib.hid hb2; have HJ2 := Lib.hid hJ2
      clear hord hown2 hb2 hJ2 hcx hlk2 hcl1 hBr hgr
      gi_loopw [29] (fun i wq => ∃ (j : Nat) (C' : Nat → Prop), j ≤ p.2.rows.length ∧ i = .int .i64 j ∧ J (offs l k + j) C' wq ∧ (∀ b, C b → C' b) ∧ (∀ b, C' b → (C b ∨ w2.heap.size ≤ b) ∧ b < wq.heap.size) ∧ Fr (fun b => S' b ∨ C' b) w2 wq) (fun i _ => p.2.rows.length - (intOf i).toNat)
      case atStart => exact ⟨0, C, Nat.zero_le _, rfl, HJ2.out, fun _ h => h, fun b h => ⟨.inl h, by have := HC.out b h; have := HB2.out.size; omega⟩, Fr.refl _ _⟩
      case round =>
        obtain ⟨j, C', hj, rfl, hJr, hsub, hC', hkp⟩ := hrel
        by_cases hlt2 : j < p.2.rows.length
        · obtain ⟨q, hq⟩ : ∃ q, p.2.rows[j]? = some q := ⟨p.2.rows[j], List.getElem?_eq_getElem hlt2⟩
          obtain ⟨g2, rfl, hg3, hg4⟩ := row_addr HO2.out (by omega)
          have m6 : ¬ (S' g2 ∨ C' g2) := fun e => e.elim (fun e => by have := (HS.out _ e).1; have := HW1.out; have := HK.out.size; omega) (fun e => by have := (hC' _ e).1.elim (fun e => by have := HC.out _ e; omega) id; omega)
          have hownq := hkp.row HO2.out (fun b e => by obtain rfl : g2 = b := (by simpa [Value.ownBlock] using e); exact m6)
          have hcx : wr.cell? ⟨g2, j, none⟩ = some (.int .i64 q.1) := by
            have := hownq.cellAt (g := g2) (j := j) (by simpa using hlt2)
            rw [this]; simp [hq]
          have HNG := Lib.hid (nums_get HP.out hq)
          obtain ⟨fn, tmps, assign, body, hy, hR⟩ := hY _ (p.1, q.1) C' wr (nums_get HP.out hq) hJr
          dsimp only [encP] at hy
          have HKQ := Lib.hid hkp; have HCQ := Lib.hid hC'; have HSUB := Lib.hid hsub
          clear hownq hkp hC' hJr hq
          gi_wp2
          refine hR.mono ?_
          rintro e W3 (⟨rfl, hJ3, hk3⟩ | ⟨rfl, hJx3, _⟩)
          · gi_wp2
            go_roundw
            case rel =>
              refine ⟨j + 1, CC C' wr W3, by omega, by go_num, by rw [← Nat.add_assoc]; exact hJ3, fun b h => Or.inl (HSUB.out b h), ?_, ?_⟩
              · rintro b (e | e)
                · have := HCQ.out b e; exact ⟨this.1, by have := hk3.size; omega⟩
                · have := HKQ.out.size; exact ⟨.inr (by omega), e.2⟩
              · exact (HKQ.out.mono (fun b _ e => e.elim .inl (fun e => .inr (.inl e)))).trans (hk3.mono (fun b _ e => e.elim .inl (fun e => .inr (.inl e))))
            case measure => simp [intOf]; omega
          · gi_wp2
            refine bodyPost_ret (results_none rfl _ _ _) rfl ?_
            refine ⟨⟨_, rfl⟩, .inr ⟨_, _, ?_, hJx3⟩⟩
            exact (List.getElem?_eq_some_iff.1 HNG.out).1
        · have : j = p.2.rows.length := by omega
          subst this
          gi_wp2
          go_roundw
          case rel =>
            have h1 := HB2.out.size
            refine ⟨k + 1, C', by omega, by go_num, by rw [offs_succ HP.out]; exact hJr, fun b h => ?_, ?_⟩
            · have h2 := hC' b h
              have h3 := HK.out.size
              exact ⟨h2.1.elim (fun e => (HC.out b e).1) (fun e => by omega), h2.2⟩
            · refine ((HK.out.mono (fun b _ e => e.elim .inl (fun e => .inr (hsub b e)))).trans' (Fr.below (S := fun _ => False) HB2.out) (fun b _ e => e.elim)).trans' hkp (fun b _ e => e)
          case measure => simp [intOf]; omega
    · have : k = l.length := by omega
      subst this
      gi_wp2
      go_end0
      exact ⟨⟨_, rfl⟩, .inl ⟨_, by rw [← offs_all]; exact hJr⟩⟩
def undoneAt (l : List (Int × Cl)) (x : Int × Int) : Bool := match getS l x.1 with
  | some c => (match getS c.rows x.2 with | some r => !r.done | none => false)
  | none => false
def opens (l : List (Int × Cl)) : List (Int × Int) := (nums l).filter (undoneAt l)
def cntO (l : List (Int × Cl)) (k : Nat) : Nat := (((nums l).take k).filter (undoneAt l)).length
theorem cntO_zero (l : List (Int × Cl)) : cntO l 0 = 0 := by simp [cntO]
theorem cntO_all (l : List (Int × Cl)) : cntO l (nums l).length = (opens l).length := by simp [cntO, opens]
theorem cntO_no {l : List (Int × Cl)} {k : Nat} {x : Int × Int} (h : (nums l)[k]? = some x) (hx : undoneAt l x = false) : cntO l (k + 1) = cntO l k := by
  unfold cntO
  rw [List.take_add_one, h, List.filter_append]
  simp [hx]
theorem cntO_yes {l : List (Int × Cl)} {k : Nat} {x : Int × Int} (h : (nums l)[k]? = some x) (hx : undoneAt l x = true) : cntO l (k + 1) = cntO l k + 1 ∧ (opens l)[cntO l k]? = some x := by
  obtain ⟨hk, rfl⟩ := List.getElem?_eq_some_iff.1 h
  constructor
  · unfold cntO
    rw [List.take_add_one, h, List.filter_append]
    simp [hx]
  · have e : nums l = (nums l).take k ++ (nums l)[k] :: (nums l).drop (k + 1) := by
      rw [List.getElem_cons_drop]; simp
    have e2 : opens l = ((nums l).take k).filter (undoneAt l) ++ ((nums l)[k] :: ((nums l).drop (k + 1)).filter (undoneAt l)) := by
      unfold opens
      conv => lhs; rw [e]
      rw [List.filter_append, List.filter_cons_of_pos hx]
    rw [e2, List.getElem?_append_right (by unfold cntO; omega)]
    simp [cntO]
theorem mem_nums {l : List (Int × Cl)} {x : Int × Int} (h : x ∈ nums l) : ∃ p ∈ l, p.1 = x.1 ∧ ∃ q ∈ p.2.rows, q.1 = x.2 := by
  unfold nums at h
  obtain ⟨p, hp, h⟩ := List.mem_flatMap.1 h
  obtain ⟨q, hq, rfl⟩ := List.mem_map.1 h
  exact ⟨p, hp, rfl, q, hq, rfl⟩
set_option maxHeartbeats 4000000 in
theorem iOpen1 (S : Nat → Prop) (w : World) (Bt g m : Nat) (l : List (Int × Cl)) (hBt : Boxed w Bt 23 (.pointer (some ⟨g, 0, none⟩))) (h : Tab w g m l) (h64 : l.length ≤ 64) (h128 : ∀ p ∈ l, p.2.rows.length ≤ 128)
    (n1 : ¬ S Bt) (n2 : ¬ S g) (n3 : ¬ S m) (n4 : ∀ p ∈ l, ¬ S p.2.b) :
    ItX 31 #[.pointer (some ⟨Bt, 0, none⟩)] encP (opens l) S w := by
  intro lp S' J Jx W hW hS' hJ hY hJx h0
  have hTW : Tab W g m l := ⟨(hW.block _ h.glt).trans h.box, h.map.below hW h.map.lt, fun p hp => (h.rows p hp).below hW (h.rows p hp).lt, h.nb, h.dis⟩
  have s1 : ¬ S' Bt := fun e => n1 ((hS' _ e).2 hBt.lt)
  have s2 : ¬ S' g := fun e => n2 ((hS' _ e).2 h.glt)
  have s3 : ¬ S' m := fun e => n3 ((hS' _ e).2 h.map.lt)
  have s4 : ∀ p ∈ l, ¬ S' p.2.b := fun p hp e => n4 p hp ((hS' _ e).2 (h.rows p hp).lt)
  have hBW := boxed_below hBt hW hBt.lt
  have HS := Lib.hid hS'; have S4 := Lib.hid s4
  have hcB := (hBW.alloc (.cells #[.func (.yield lp) #[] #[]] 42)).cell
  have hfn : ∀ f, Fence.wide.fn f := fun _ => trivial
  have hdp : Fence.wide.depth.isSome = false := rfl
  have HT := Lib.hid hTW; have HBW := Lib.hid hBW
  clear hBt h n1 n2 n3 n4 hS' hTW s4 hW hBW
  refine (callsIn_wide (n := 0)).1 ?_
  refine callsIn_of_wp_marks Try.func31 rfl trivial ?_ rfl
  simp only [Try.ntmps31, List.size_toArray, List.length_cons, List.length_nil, Nat.reduceAdd, Nat.reduceSub, Array.replicate_succ, Array.replicate_zero, List.push_toArray, List.append_toArray, List.nil_append, List.cons_append]
  gi_wp2_with (gi_at_call 32; refine (callsIn_wide.2 (iNumbers _ _)).mono ?_; rintro e w1 ⟨rfl, rfl⟩)
  obtain ⟨W1, hW1⟩ : ∃ W1, W.alloc (.cells #[.func (.yield lp) #[] #[]] 42) = W1 := ⟨_, rfl⟩
  have hs1 : W1.heap.size = W.heap.size + 1 := by rw [← hW1]; simp
  have hb1 : Below W.heap.size W W1 := by rw [← hW1]; exact (Below.refl _ _).alloc (Nat.le_refl _) _
  have hY1 : Boxed W1 W.heap.size 42 (.func (.yield lp) #[] #[]) := by rw [← hW1]; exact Boxed.new _ _ _
  rw [hW1]
  have hT := Boxed.new W1 23 (.pointer (some ⟨g, 0, none⟩))
  rw [hs1] at hT
  obtain ⟨W2, hW2⟩ : ∃ W2, W1.alloc (.cells #[.pointer (some ⟨g, 0, none⟩)] 23) = W2 := ⟨_, rfl⟩
  have hs2 : W2.heap.size = W.heap.size + 2 := by rw [← hW2]; simp; omega
  have hb2 : Below W.heap.size W W2 := by rw [← hW2]; exact hb1.alloc (by omega) _
  have hY2 : Boxed W2 W.heap.size 42 (.func (.yield lp) #[] #[]) := by rw [← hW2]; exact hY1.alloc _
  rw [hW2] at hT ⊢
  have h02 := hJ 0 _ _ _ h0 (Fr.below hb2)
  have hT2 : Tab W2 g m l := HT.out.fr (Fr.below (S := fun _ => False) hb2) (fun h => h) (fun h => h) (fun _ _ h => h)
  have hBt2 : Boxed W2 Bt 23 (.pointer (some ⟨g, 0, none⟩)) := (Fr.below (S := fun _ => False) hb2).box HBW.out (fun h => h)
  have hBtl := HBW.out.lt
  clear hW1 hW2 hb1 hs1 hcB hY1
  refine rangeX (w0 := W2) (X := nums l) (S := S') rfl (enters_of Try.func51 (by kernel_rfl) rfl)
    (iNumbers1 S' _ _ g m l hT hT2 h64 h128 (fun e => by have := (HS.out _ e).1; omega) s2 s3 S4.out) (Below.refl _ _) (fun b hb => by have := (HS.out b hb).1; omega) (fun _ => rfl)
    (fun k C W' => ∃ C1, (∀ b, C1 b → C b) ∧ J (cntO l k) C1 W') (fun c _ C W' => c = .ret ∧ ∃ k' C1, k' ≤ (opens l).length ∧ Jx k' C1 W')
    (fun k C W' W'' hs hf => by obtain ⟨C1, h1, h2⟩ := hs; exact ⟨C1, h1, hJ _ _ _ _ h2 (Fa.up hf (by omega))⟩)
    (fun c k C W' W'' hs hf => by obtain ⟨e, k', C1, h1, h2⟩ := hs; exact ⟨e, k', C1, h1, hJx _ _ _ _ h2 (Fa.up hf (by omega))⟩) ⟨fun _ => False, (fun _ h => False.elim h), by rw [cntO_zero]; exact h02⟩ ?round ?done ?stop
  case round =>
    rintro l2 k x C W3 hx hl2 hi hr
    dsimp only [encP]
    gi_wp2
    refine Took.mk (Fr.refl _ _) hi ?_
    rintro Wb ⟨C1, hC1, hj⟩ hrb hf hsz hsw hCC _
    have hTb := hT2.fr hrb s2 s3 S4.out
    have hBb := (hrb.box hBt2 s1).cell
    have hYb := (hrb.box hY2 (fun e => by have := (HS.out _ e).1; omega)).cell
    obtain ⟨p, hp, hpx, q, hq, hqx⟩ := mem_nums (List.mem_of_getElem? hx)
    have gp : getS l x.1 = some p.2 := getS_of (mp_nd hTb.map) (hpx ▸ hp)
    have hRb := hTb.rows p hp
    have gq : getS p.2.rows x.2 = some q.2 := getS_of (mp_nd hRb) (hqx ▸ hq)
    have hund : undoneAt l x = !q.2.done := by unfold undoneAt; rw [gp]; simp only; rw [gq]
    have hgb := hTb.cell
    have hlk1 : (Instr.lookup 61 (.map (some m)) (.int .i64 x.1) false).run Try.prog Wb = .ok (.agg #[.int .i64 p.2.mark, .map (some p.2.b)]) Wb := by
      have := hTb.map.look idK Try.underlying61 (zeroCl Wb) ((hTb.map.ok idK).1 p hp)
      rw [hpx, gp] at this
      exact this
    have hlk2 : (Instr.lookup 66 (.map (some p.2.b)) (.int .i64 x.2) false).run Try.prog Wb = .ok (.agg #[.int .u64 q.2.mix, .bool q.2.done, .int .i64 q.2.a.c, .int .i64 q.2.a.n, .int .i64 q.2.a.code, .int .i64 q.2.a.k]) Wb := by
      have := hRb.look idK Try.underlying66 (zeroRow Wb) ((hRb.ok idK).1 q hq)
      rw [hqx, gq] at this
      exact this
    have hcl1 := clField1 Wb (.int .i64 p.2.mark) (.map (some p.2.b))
    have hfl1 : (Instr.field 73 (.agg #[.int .u64 q.2.mix, .bool q.2.done, .int .i64 q.2.a.c, .int .i64 q.2.a.n, .int .i64 q.2.a.code, .int .i64 q.2.a.k]) 1).run Try.prog Wb = .ok (.bool q.2.done) Wb := by kernel_rfl
    have HX := Lib.hid hx; have HC := Lib.hid hC1
    have hszb := hrb.size
    clear hi hr hf hTb hRb hp hq gp gq hpx hqx hx hC1 hrb
    cases hdn : q.2.done with
    | true =>
      rw [hdn] at hlk2 hfl1 hund
      have hc := cntO_no HX.out hund
      gi_wp2_with fail
      exact ⟨Fr.refl _ _, C1, fun b hb => .inl (HC.out b hb), by rw [hc]; exact hj⟩
    | false =>
      rw [hdn] at hlk2 hfl1 hund
      obtain ⟨hc, hox⟩ := cntO_yes HX.out hund
      have hol := (List.getElem?_eq_some_iff.1 hox).1
      obtain ⟨fn, tmps, assign, body, hy, hR⟩ := hY _ x C1 Wb hox hj
      dsimp only [encP] at hy
      have HO := Lib.hid hox
      clear hox hj
      gi_wp2_with fail
      refine (show RoundIn (Fence.wide.inRound l2) 0 Try.prog lp fn tmps assign body Wb _ from hR).mono ?_
      rintro e W4 (⟨rfl, hJ4, hk4⟩ | ⟨rfl, hJx4, hk4⟩)
      · gi_wp2_with fail
        have hs4 := hk4.size
        refine ⟨hk4.mono (fun b _ e => e.elim .inl (fun e => .inr (.inl (HC.out b e)))), CC C1 Wb W4, fun b e => e.elim (fun e => .inl (HC.out b e)) (fun e => .inr ⟨by omega, e.2⟩), by rw [hc]; exact hJ4⟩
      · gi_wp2_with fail
        have hs4 := hk4.size
        refine ⟨hk4.mono (fun b _ e => e.elim .inl (fun e => .inr (.inl (HC.out b e)))), rfl, _, _, by omega, hJx4⟩
  case stop =>
    rintro D c k C W3 hD hk ⟨rfl, k', C1, hk', hJx'⟩ hr hK
    gi_wp2_with fail
    have hj2 := hJx _ _ _ _ hJx' (frPut (B := W.heap.size) (.deferred none) (by omega) hK rfl)
    refine ⟨by simp, .inl ⟨_, _, rfl, run_takeDeferred hK, ?_⟩⟩
    exact ⟨_, results_none rfl _ _ _, ⟨_, rfl⟩, .inr ⟨_, _, hk', hj2⟩⟩
  case done =>
    rintro D C W3 hD ⟨C1, -, hj⟩ hr hK
    rw [cntO_all] at hj
    gi_wp2_with fail
    have hj2 := hJ _ _ _ _ hj (frPut (B := W.heap.size) (.deferred none) (by omega) hK rfl)
    refine ⟨by simp, .inl ⟨_, _, rfl, run_takeDeferred hK, ?_⟩⟩
    exact ⟨_, results_none rfl _ _ _, ⟨_, rfl⟩, .inl ⟨_, hj2⟩⟩
end Go.Proofs.Ytakjiicnbocjeaa
namespace Go.Proofs.Ytakjiicnbocjeaa
open Go.RowKit Go.Maps
theorem infoU8 : (Try.prog.info? 5).map (fun i => (i.zero, i.size, i.bytes)) = some (some (.int .u8 0), 1, 1) := by kernel_rfl
/-- k bytes of u, the highest first. -/
def beB (u : Nat) : Nat → List Int
  | 0 => []
  | k + 1 => ((u / 256 ^ k % 256 : Nat) : Int) :: beB u k
def nSz (u : Nat) : Nat := (Lib.bitLen u + 7) / 8
def numH (n : Int) : Int := if n < 0 then 144 else 128
def numU (n : Int) : Nat := if n < 0 then (-1 - n).toNat else n.toNat
/-- A number's cell. -/
def numB (n : Int) : List Int := if 0 ≤ n ∧ n < 128 then [n] else (numH n + nSz (numU n)) :: beB (numU n) (nSz (numU n))
theorem beB_len (u : Nat) : ∀ k, (beB u k).length = k
  | 0 => rfl
  | k + 1 => by simp [beB, beB_len u k]
/-- Bytes as values. -/
def u8s (l : List Int) : List Value := l.map (.int .u8)
/-- Bytes that lie in memory from block B on. -/
def Bn (B : Nat) (w : World) (v : Value) (bs : List Int) : Prop := Bs w v bs ∧ ∀ b, v.ownBlock = some b → B ≤ b
theorem beB_mem {u k : Nat} {x : Int} (h : x ∈ beB u k) : 0 ≤ x ∧ x < 256 := by
  induction k with
  | zero => cases h
  | succ k ih =>
    simp only [beB, List.mem_cons] at h
    rcases h with rfl | h
    · omega
    · exact ih h
theorem nSz_le {u : Nat} (h : u < 18446744073709551616) : nSz u ≤ 8 := by
  have := Lib.bitLen_le u 64 (by omega) h
  unfold nSz; omega
theorem numU_lt {n : Int} (h : okI n) : numU n < 9223372036854775808 := by unfold numU okI at *; split <;> omega
theorem numB_mem {n : Int} (h : okI n) {x : Int} (hx : x ∈ numB n) : 0 ≤ x ∧ x < 256 := by
  unfold numB at hx
  split at hx
  · simp at hx; omega
  · simp only [List.mem_cons] at hx
    rcases hx with rfl | hx
    · have := nSz_le (u := numU n) (by have := numU_lt h; omega)
      unfold numH; split <;> omega
    · exact beB_mem hx
theorem numB_len {n : Int} (h : okI n) : 1 ≤ (numB n).length ∧ (numB n).length ≤ 9 := by
  unfold numB
  split
  · simp
  · have := nSz_le (u := numU n) (by have := numU_lt h; omega)
    simp [beB_len]; omega
/-- A row of the call's own, read as bytes. -/
theorem Bs.own {w : World} {base : Nat} {v : Value} {bs : List Int} (h : w.ownsRow base 5 1 v bs.length (u8s bs)) (hb : ∀ x ∈ bs, 0 ≤ x ∧ x < 256) : Bn base w v bs := by
  rcases Nat.eq_zero_or_pos bs.length with h0 | h0
  · have : bs = [] := List.eq_nil_of_length_eq_zero h0
    subst this
    obtain ⟨hl, h1 | ⟨g, cap, cur, rfl, hbs, hh, hn, hm, hs, ht⟩⟩ := h
    · obtain ⟨rfl, -⟩ := h1
      exact ⟨Bs.nil w, fun b hb => by cases hb⟩
    · exact ⟨⟨by simp, _, cap, rfl, fun i x hx => by simp at hx⟩, fun b hb => by cases hb; exact hbs⟩
  · obtain ⟨g, cap, rfl, hg, hlt⟩ := h.form h0
    refine ⟨⟨?_, _, cap, rfl, fun i x hx => ?_⟩, fun b hb => by cases hb; exact hg⟩
    · obtain ⟨-, h1 | ⟨g', cap', cur, e, _, _, hn, hm, _, _⟩⟩ := h
      · omega
      · have hm : cap' ≤ 9223372036854775807 := hm
        omega
    · have hi := (List.getElem?_eq_some_iff.1 hx).1
      have hmem : x ∈ bs := List.mem_of_getElem? hx
      refine ⟨(hb x hmem).1, (hb x hmem).2, _, rfl, ?_⟩
      have := h.cellAt (g := g) (j := i) (by simpa using hi)
      rw [show (⟨g, 0, none⟩ : Addr).add i = ⟨g, i, none⟩ by simp [Addr.add]; omega, this]
      simp [u8s, hx]
end Go.Proofs.Ytakjiicnbocjeaa
namespace Go.Proofs.Ytakjiicnbocjeaa
open Go.RowKit Go.Maps
theorem beB_get (u : Nat) : ∀ {s k : Nat}, k < s → (beB u s)[k]? = some ((u / 256 ^ (s - 1 - k) % 256 : Nat) : Int)
  | 0, _, h => by omega
  | s + 1, 0, _ => by simp [beB]
  | s + 1, k + 1, h => by
    have := beB_get u (s := s) (k := k) (by omega)
    simp only [beB, List.getElem?_cons_succ]
    rw [this, show s + 1 - 1 - (k + 1) = s - 1 - k by omega]
theorem cClip (w : World) (a : Addr) (n c : Nat) (h : n ≤ c) (hc : c ≤ 9223372036854775807) : Calls Try.prog 70 #[.slice (some a) n c] w fun e w' => e = .returned (.slice (some a) n n) ∧ w = w' := by
  go_enter Try.func70, Try.ntmps70
  go_wp2
  go_ret
  exact ⟨rfl, rfl⟩
theorem pow256 (U m : Nat) : ((U : Int) / 2 ^ (8 * m)) % 256 = ((U / 256 ^ m % 256 : Nat) : Int) := by
  have : (2 : Int) ^ (8 * m) = ((256 ^ m : Nat) : Int) := by
    rw [Int.pow_mul]; simp
  rw [this]; simp
theorem own_cap {w : World} {base : Nat} {e : TypeId} {size n m cap : Nat} {a : Addr} {xs : List Value} (h : w.ownsRow base e size (.slice (some a) n cap) m xs) : n ≤ cap ∧ cap ≤ 9223372036854775807 := by
  rcases h.2 with ⟨h0, _⟩ | ⟨g, c, cur, e1, _, _, h1, h2, _⟩
  · cases h0
  · injection e1 with e2 e3 e4
    subst e3 e4
    exact ⟨h1, h2⟩
theorem Bn.clip {B : Nat} {w : World} {a : Option Addr} {n c c' : Nat} {bs : List Int} (h : Bn B w (.slice a n c) bs) : Bn B w (.slice a n c') bs := by
  obtain ⟨⟨h0, a', c1, e, h1⟩, h2⟩ := h
  injection e with e1 e2 e3
  subst e1 e2
  exact ⟨⟨h0, _, c', rfl, h1⟩, fun b hb => h2 b (by cases a <;> exact hb)⟩
theorem xorOnes (m : Nat) (h : m < 18446744073709551616) : 18446744073709551615 ^^^ m = 18446744073709551615 - m := by
  have h1 := congrArg BitVec.toNat (BitVec.allOnes_xor (x := BitVec.ofNat 64 m))
  rw [BitVec.toNat_xor, BitVec.toNat_not, BitVec.toNat_allOnes, BitVec.toNat_ofNat, Nat.mod_eq_of_lt (by simpa using h)] at h1
  simpa using h1
theorem notU64 {n : Int} (h0 : -9223372036854775808 ≤ n) (h1 : n < 0) : bits BinOp.xor IntKind.u64 IntKind.u64.max (IntKind.u64.wrap n) = ((-1 - n).toNat : Int) := by
  have e1 : IntKind.u64.max = ((18446744073709551615 : Nat) : Int) := by decide
  have e2 : IntKind.u64.wrap n = ((n + 18446744073709551616).toNat : Int) := by
    show n % 18446744073709551616 = _
    omega
  rw [e1, e2, u64_xor_nat _ _ (by omega) (by omega), xorOnes _ (by omega)]
  omega
set_option maxRecDepth 100000 in
set_option maxHeartbeats 2000000 in
theorem cNum (w : World) (n : Int) (hn : okI n) : Calls Try.prog 53 #[.int .i64 n] w fun e w' => ∃ v, e = .returned v ∧ Bn w.heap.size w' v (numB n) ∧ Below w.heap.size w w' := by
  obtain ⟨i0, hi', hz0, hz1, hz2⟩ := info_parts infoU8
  have HN := Lib.hid hn
  unfold okI at hn
  by_cases h : 0 ≤ n ∧ n < 128
  · obtain ⟨h0, h1⟩ := h
    have e : numB n = [n] := by unfold numB; rw [if_pos ⟨h0, h1⟩]
    rw [e]
    go_enter Try.func53, Try.ntmps53
    go_wp2
    go_ret
    exact ⟨_, rfl, Bs.own (w := w.alloc (.cells #[.int .u8 n] 5)) (base := w.heap.size) ⟨by simp [u8s], .inr ⟨_, _, _, rfl, Nat.le_refl _, heap_new _ _, by simp, by decide, by simp, by simp [u8s]⟩⟩ (fun x hx => by simp at hx; omega), (Below.refl _ _).alloc (Nat.le_refl _) _⟩
  · obtain ⟨U, hU⟩ : ∃ U, numU n = U := ⟨_, rfl⟩
    have hU1 := numU_lt HN.out
    have e : numB n = (numH n + nSz U) :: beB U (nSz U) := by unfold numB; rw [if_neg h, hU]
    rw [e]
    rw [hU] at hU1
    obtain ⟨s, hs⟩ : ∃ s, nSz U = s := ⟨_, rfl⟩
    rw [hs]
    have hs8 : s ≤ 8 := by rw [← hs]; exact nSz_le (by omega)
    have hLen := bLen64 (U : Int) w (by omega) (by omega)
    rw [show (U : Int).toNat = U from rfl] at hLen
    obtain ⟨bl, hbl⟩ : ∃ bl, Lib.bitLen U = bl := ⟨_, rfl⟩
    have hbs : (bl + 7) / 8 = s := by rw [← hs, ← hbl]; rfl
    rw [hbl] at hLen
    have hbl64 : bl ≤ 64 := by rw [← hbl]; exact Lib.bitLen_le U 64 (by omega) (by omega)
    have HL := Lib.hid hLen
    clear hLen
    rcases (by omega : n < 0 ∨ 128 ≤ n) with hneg | hpos
    · have hH : numH n = 144 := if_pos hneg
      have hX := notU64 hn.1 hneg
      have hUn : (-1 - n).toNat = U := by rw [← hU]; unfold numU; rw [if_pos hneg]
      rw [hUn] at hX
      rw [hH]
      clear hU hs hbl h e
      go_enter Try.func53, Try.ntmps53
      go_wp2_with fail
      refine HL.out.mono ?_
      rintro e w' ⟨rfl, hww⟩
      have hww := hww.symm
      subst hww
      go_wp2_with fail
      go_loopw [6, 7] (fun o i wr => ∃ k : Nat, k ≤ s ∧ i = .int .i64 ((s : Int) - 1 - k) ∧ wr.ownsRow w.heap.size 5 1 o (1 + k) (u8s ((144 + (s : Int)) :: (beB U s).take k)) ∧ Below w.heap.size w wr) (fun _ i _ => (intOf i + 1).toNat)
      case atStart =>
        refine ⟨0, by omega, val_int (by omega), ⟨by simp [u8s], .inr ⟨_, _, _, rfl, Nat.le_refl _, heap_new _ _, by simp, by decide, by simp, ?_⟩⟩, (Below.refl _ _).alloc (Nat.le_refl _) _⟩
        simp [u8s]; omega
      case round =>
        obtain ⟨k, hk, rfl, hown, hB⟩ := hrel
        by_cases hks : k < s
        · have HOW := Lib.hid hown; have HBB := Lib.hid hB
          have hBs := hB.size
          clear hown hB
          go_wp2_with (at_builtin; refine wpList_append_own_at _ rfl _ _ 28 rfl w.heap.size 5 i0 (.int .u8 0) 1 1 Try.underlying28 hi' hz0 hz1 hz2 rfl (by decide) _ (1 + k) _ rfl (HOW.out.alloc _) ⟨wr.heap.size, 0, none⟩ 1 1 [.int .u8 _] rfl rfl (cell_one_new _ _ _) (by simp [Value.oneCell']) (by unfold maxLen; omega) (by omega) (by simp; omega) ?_; intro v' w1 hown' hgrow _ _)
          go_roundw
          case rel =>
            refine ⟨k + 1, by omega, val_int (by omega), ?_, (HBB.out.alloc hBs _).grown hgrow (by simp; omega) (fun r hr => (HOW.out.lt r hr).1)⟩
            rw [List.take_add_one, beB_get U hks, ← pow256]
            rw [show 1 + (k + 1) = 1 + k + 1 by omega]
            simpa [u8s] using hown'
          case measure => simp [intOf]; omega
        · have hke : k = s := by omega
          subst hke
          obtain ⟨g, cap, rfl, hg, hlt⟩ := hown.form (by omega)
          have HOW := Lib.hid hown; have HBB := Lib.hid hB
          clear hown hB
          go_wp2_with fail
          refine (cClip wr _ _ _ (own_cap HOW.out).1 (own_cap HOW.out).2).mono ?_
          rintro e w3 ⟨rfl, rfl⟩
          go_wp2_with fail
          go_ret
          have hle : (beB U k).take k = beB U k := List.take_of_length_le (by rw [beB_len]; omega)
          have hown := HOW.out
          rw [hle] at hown
          have hl1 : ((144 + (k : Int)) :: beB U k).length = 1 + k := by rw [List.length_cons, beB_len, Nat.add_comm]
          refine ⟨_, rfl, (Bs.own (v := .slice (some ⟨g, 0, none⟩) (1 + k) cap) (bs := (144 + (k : Int)) :: beB U k) (by rw [hl1]; exact hown) (fun x hx => ?_)).clip, HBB.out⟩
          rcases List.mem_cons.1 hx with rfl | hx
          · omega
          · exact beB_mem hx
    · have hH : numH n = 128 := if_neg (by omega)
      have hUn : n = (U : Int) := by rw [← hU]; unfold numU; rw [if_neg (by omega)]; omega
      rw [hH]
      clear hU hs hbl h e HN
      subst hUn
      go_enter Try.func53, Try.ntmps53
      go_wp2_with fail
      refine HL.out.mono ?_
      rintro e w' ⟨rfl, hww⟩
      have hww := hww.symm
      subst hww
      go_wp2_with fail
      go_loopw [6, 7] (fun o i wr => ∃ k : Nat, k ≤ s ∧ i = .int .i64 ((s : Int) - 1 - k) ∧ wr.ownsRow w.heap.size 5 1 o (1 + k) (u8s ((128 + (s : Int)) :: (beB U s).take k)) ∧ Below w.heap.size w wr) (fun _ i _ => (intOf i + 1).toNat)
      case atStart =>
        refine ⟨0, by omega, val_int (by omega), ⟨by simp [u8s], .inr ⟨_, _, _, rfl, Nat.le_refl _, heap_new _ _, by simp, by decide, by simp, ?_⟩⟩, (Below.refl _ _).alloc (Nat.le_refl _) _⟩
        simp [u8s]; omega
      case round =>
        obtain ⟨k, hk, rfl, hown, hB⟩ := hrel
        by_cases hks : k < s
        · have HOW := Lib.hid hown; have HBB := Lib.hid hB
          have hBs := hB.size
          clear hown hB
          go_wp2_with (at_builtin; refine wpList_append_own_at _ rfl _ _ 28 rfl w.heap.size 5 i0 (.int .u8 0) 1 1 Try.underlying28 hi' hz0 hz1 hz2 rfl (by decide) _ (1 + k) _ rfl (HOW.out.alloc _) ⟨wr.heap.size, 0, none⟩ 1 1 [.int .u8 _] rfl rfl (cell_one_new _ _ _) (by simp [Value.oneCell']) (by unfold maxLen; omega) (by omega) (by simp; omega) ?_; intro v' w1 hown' hgrow _ _)
          go_roundw
          case rel =>
            refine ⟨k + 1, by omega, val_int (by omega), ?_, (HBB.out.alloc hBs _).grown hgrow (by simp; omega) (fun r hr => (HOW.out.lt r hr).1)⟩
            rw [List.take_add_one, beB_get U hks, ← pow256]
            rw [show 1 + (k + 1) = 1 + k + 1 by omega]
            simpa [u8s] using hown'
          case measure => simp [intOf]; omega
        · have hke : k = s := by omega
          subst hke
          obtain ⟨g, cap, rfl, hg, hlt⟩ := hown.form (by omega)
          have HOW := Lib.hid hown; have HBB := Lib.hid hB
          clear hown hB
          go_wp2_with fail
          refine (cClip wr _ _ _ (own_cap HOW.out).1 (own_cap HOW.out).2).mono ?_
          rintro e w3 ⟨rfl, rfl⟩
          go_wp2_with fail
          go_ret
          have hle : (beB U k).take k = beB U k := List.take_of_length_le (by rw [beB_len]; omega)
          have hown := HOW.out
          rw [hle] at hown
          have hl1 : ((128 + (k : Int)) :: beB U k).length = 1 + k := by rw [List.length_cons, beB_len, Nat.add_comm]
          refine ⟨_, rfl, (Bs.own (v := .slice (some ⟨g, 0, none⟩) (1 + k) cap) (bs := (128 + (k : Int)) :: beB U k) (by rw [hl1]; exact hown) (fun x hx => ?_)).clip, HBB.out⟩
          rcases List.mem_cons.1 hx with rfl | hx
          · omega
          · exact beB_mem hx
end Go.Proofs.Ytakjiicnbocjeaa
namespace Go.Proofs.Ytakjiicnbocjeaa
open Go.RowKit Go.Maps
theorem run_append_zeros {P : Program} (w : World) (t ty e ti : TypeId) (i : TypeInfo) (z : Value) (ht : P.underlying t = some (.slice e)) (hti : P.underlying ti = some (.int .i64)) (hi : P.info? e = some i) (hz : i.zero = some z) (hby : i.bytes = 1) (hsz : i.size = 1)
    (n : Nat) (h0 : 0 < n) (h63 : n ≤ 1099511627776) :
    (Builtin.append_ #[t, ti] ty #[.slice none 0 0, .int .i64 n]).run P w =
      .ok (.slice (some ⟨w.heap.size, 0, none⟩) n (grownCap w n 0 e)) (w.drew.alloc (.cells (Builtin.zeroCells z.cells n ++ Builtin.zeroCells z.cells (grownCap w n 0 e - n)) e)) := by
  have hn : n ≠ 0 := by omega
  have h63' : ¬ (9223372036854775807 < (n : Int)) := by omega
  have h48' : ¬ (281474976710656 < Builtin.nextslicecap n 0) := by rw [nextslicecap_zero h0]; omega
  have hw : IntKind.i64.wrap (n : Int) = n := by rw [IntKind.wrap_i64]; omega
  have hl : ¬ ((n : Int) < 0) := by omega
  have hl2 : ¬ (281474976710656 < (n : Int)) := by omega
  simp [Builtin.append_, run_underlying ht, run_underlying hti, sizeOf, typeInfo, zeroValue, hi, hz, hby, hsz, asInt, asIntOf, hw, hl, hl2, hn, h63', h48', Question.forced, run_firstCells_none, newRow, grownCap]
theorem wpList_append_zeros {P : Program} (w : World) {ops : Array Oper} {rest : List Oper} {o : Oper} {a : Act} {Q : Exit → Act → World → Prop} (hgd : o.guard = none) (s x : Operand) (t e ti : TypeId)
    (ho : o.op = .call { callee := .builtin .append, args := #[s, x], argTypes := #[t, ti] }) (i : TypeInfo) (z : Value) (ht : P.underlying t = some (.slice e)) (hti : P.underlying ti = some (.int .i64)) (hi : P.info? e = some i) (hz : i.zero = some z) (hby : i.bytes = 1) (hsz : i.size = 1)
    (n : Nat) (h0 : 0 < n) (h63 : n ≤ 1099511627776) (hs : a.eval s = .slice none 0 0) (hx : a.eval x = .int .i64 n)
    (h : wpList P ops Q rest (a.put o.dst (.slice (some ⟨w.heap.size, 0, none⟩) n (grownCap w n 0 e))) (w.drew.alloc (.cells (Builtin.zeroCells z.cells n ++ Builtin.zeroCells z.cells (grownCap w n 0 e - n)) e))) :
    wpList P ops Q (o :: rest) a w := by
  refine wpList_plain hgd fun K hK => ?_
  have hr := run_append_zeros (P := P) w t o.type e ti i z ht hti hi hz hby hsz n h0 h63
  unfold Oper.wp execOp
  simp only [ho, resolve, invoke, builtin, Sem.run_bind, Sem.run_pure, Result.andThen_ok, List.map_toArray, List.map_cons, List.map_nil, hs, hx, hr]
  exact hK _ _ h
theorem zeroCells_size (z : Array Value) (hz : z.size = 1) (n : Nat) : (Builtin.zeroCells z n).size = n := by simp [Builtin.zeroCells, hz]
set_option maxRecDepth 100000 in
theorem cGrow (w : World) (n : Nat) (hn : (n : Int) ≤ 1099511627776) : Calls Try.prog 78 #[.slice none 0 0, .int .i64 n] w fun e w' =>
    ∃ v, e = .returned v ∧ w'.ownsRow w.heap.size 5 1 v 0 [] ∧ Below w.heap.size w w' := by
  obtain ⟨i0, hi', hz0, hz1, hz2⟩ := info_parts infoU8
  by_cases h0 : n = 0
  · subst h0
    go_enter Try.func78, Try.ntmps78
    go_wp2
    go_ret
    exact ⟨_, rfl, World.ownsRow_nil _ _ _ _, Below.refl _ _⟩
  · have hpos : 0 < n := by omega
    have hcap := Lib.hid (grownCap_ge w n 0 5)
    have hcm := Lib.hid (grownCap_le_maxLen w n 0 5 (by unfold maxLen; omega))
    go_enter Try.func78, Try.ntmps78
    go_wp2_with (at_builtin; refine wpList_append_zeros _ rfl _ _ 28 5 3 rfl i0 (.int .u8 0) Try.underlying28 Try.underlying3 hi' hz0 hz2 hz1 n hpos (by omega) rfl rfl ?_)
    go_ret
    refine ⟨_, rfl, World.ownsRow_made (w := w.drew) _ _ (Nat.le_refl _) hcm.out ?_, (Below.refl _ w).drew.alloc (Nat.le_refl _) _⟩
    rw [Array.size_append, zeroCells_size _ rfl, zeroCells_size _ rfl]
    have := hcap.out
    omega
end Go.Proofs.Ytakjiicnbocjeaa
namespace Go.Proofs.Ytakjiicnbocjeaa
open Go.RowKit Go.Maps
def Parts (w : World) (v : Value) (L : List (Value × List Int)) : Prop := ∃ a c, v = .slice (some a) L.length c ∧ ∀ i p, L[i]? = some p → w.cell? (a.add i) = some p.1 ∧ Bs w p.1 p.2 ∧ ∃ ad n c, p.1 = .slice (some ad) n c
def catL (L : List (Value × List Int)) : List Int := L.flatMap (·.2)
theorem catL_take {L : List (Value × List Int)} {k : Nat} {p : Value × List Int} (h : L[k]? = some p) : catL (L.take (k + 1)) = catL (L.take k) ++ p.2 := by
  unfold catL
  rw [List.take_add_one, h]; simp
theorem catL_le (L : List (Value × List Int)) (k : Nat) : (catL (L.take k)).length ≤ (catL L).length := by
  have : catL L = catL (L.take k) ++ catL (L.drop k) := by
    unfold catL
    rw [← List.flatMap_append, List.take_append_drop]
  rw [this, List.length_append]; omega
theorem Parts.fr {S : Nat → Prop} {w w' : World} {v : Value} {L : List (Value × List Int)} (h : Parts w v L) (hf : Fr S w w') (hS : ∀ b, S b → w.heap.size ≤ b) : Parts w' v L := by
  obtain ⟨a, c, e, h1⟩ := h
  refine ⟨a, c, e, fun i p hp => ⟨?_, (h1 i p hp).2.1.fr hf hS, (h1 i p hp).2.2⟩⟩
  have hc := (h1 i p hp).1
  exact hf.cell hc (fun hs => by have := hS _ hs; have := World.block_lt_of_cell? w _ hc; omega)
set_option maxRecDepth 100000 in
set_option maxHeartbeats 1000000 in
theorem cConcat (w : World) (v : Value) (L : List (Value × List Int)) (h : Parts w v L) (hl : (L.length : Int) ≤ 1000) (hn : ((catL L).length : Int) ≤ 1099511627776) : Calls Try.prog 68 #[v] w fun e w' =>
    ∃ v', e = .returned v' ∧ w'.ownsRow w.heap.size 5 1 v' (catL L).length (u8s (catL L)) ∧ Below w.heap.size w w' := by
  obtain ⟨i0, hi', hz0, hz1, hz2⟩ := info_parts infoU8
  obtain ⟨a, c, rfl, -⟩ := id h
  have HP := Lib.hid h
  clear h
  obtain ⟨ln, hln⟩ : ∃ ln, L.length = ln := ⟨_, rfl⟩
  have HLN := Lib.hid hln
  rw [hln] at hl HP ⊢
  clear hln
  have hle := fun k => catL_le L k
  obtain ⟨tot, htot⟩ : ∃ t, (catL L).length = t := ⟨_, rfl⟩
  have HTOT := Lib.hid htot
  rw [htot] at hn hle ⊢
  have HLE := Lib.hid hle
  clear htot hle
  go_enter Try.func68, Try.ntmps68
  go_wp2
  go_loopw [3, 11] (fun z i wr => ∃ k : Nat, (k : Int) ≤ ln ∧ z = .int .i64 ((catL (L.take k)).length : Nat) ∧ i = .int .i64 k ∧ wr = w) (fun _ i _ => ln - (intOf i).toNat)
  case atStart => exact ⟨0, by omega, by simp [catL], rfl, rfl⟩
  case round =>
    obtain ⟨k, hk, rfl, rfl, rfl⟩ := hrel
    by_cases hkl : (k : Int) < ln
    · obtain ⟨p, hp⟩ : ∃ p, L[k]? = some p := ⟨L[k]'(by have := HLN.out; omega), List.getElem?_eq_getElem _⟩
      obtain ⟨a', c', e, h1⟩ := HP.out
      have hc := (h1 k p hp).1
      obtain ⟨hb1, ba, bc, hbe, -⟩ := id (h1 k p hp).2.1
      injection e with e1 e2 e3
      cases e1
      have e3 := e3.symm
      subst e3
      have HT := Lib.hid (congrArg List.length (catL_take hp))
      have HLE1 := HLE.out (k + 1)
      rw [HT.out, List.length_append] at HLE1
      rw [hbe] at hc
      obtain ⟨pl, hpl⟩ : ∃ n, p.2.length = n := ⟨_, rfl⟩
      rw [hpl] at hc HLE1 hb1
      obtain ⟨z, hz⟩ : ∃ z, (catL (L.take k)).length = z := ⟨_, rfl⟩
      rw [hz] at HLE1 ⊢
      have HZ := Lib.hid hz; have HPL := Lib.hid hpl
      clear h1 hp hz hpl e2 hbe
      go_wp2
      go_roundw
      case rel => exact ⟨k + 1, by omega, val_int (by rw [HT.out, List.length_append, HZ.out, HPL.out]; omega), by go_num, by trivial⟩
      case measure => simp [intOf]; omega
    · have hke : k = ln := by omega
      have hz : (catL (L.take k)).length = tot := by rw [List.take_of_length_le (by have := HLN.out; omega)]; exact HTOT.out
      rw [hz]
      subst hke
      clear hz
      go_wp2_with fail
      refine (cGrow _ _ hn).mono ?_
      rintro e w1 ⟨v1, rfl, hown, hB⟩
      have HOW := Lib.hid hown; have HBB := Lib.hid hB
      clear hown hB
      go_wp2_with fail
      obtain ⟨W0, rfl⟩ : ∃ W0 : World, W0 = wr := ⟨_, rfl⟩
      go_loopw [6, 27] (fun o i w2 => ∃ j : Nat, (j : Int) ≤ k ∧ i = .int .i64 j ∧ w2.ownsRow W0.heap.size 5 1 o (catL (L.take j)).length (u8s (catL (L.take j))) ∧ Below W0.heap.size W0 w2) (fun _ i _ => k - (intOf i).toNat)
      case atStart => exact ⟨0, by omega, rfl, HOW.out, HBB.out⟩
      case round =>
        obtain ⟨j, hj, rfl, hown2, hB2⟩ := hrel
        by_cases hjl : (j : Int) < k
        · obtain ⟨p, hp⟩ : ∃ p, L[j]? = some p := ⟨L[j]'(by have := HLN.out; omega), List.getElem?_eq_getElem _⟩
          obtain ⟨a', c', e, h1⟩ := HP.out
          have hc := (h1 j p hp).1
          obtain ⟨ad, pl', pc, hpe⟩ := (h1 j p hp).2.2
          obtain ⟨hb1, ba, bc, hbe, hbx⟩ := id (h1 j p hp).2.1
          rw [hpe] at hbe
          injection hbe with g1 g2 g3
          subst g1 g2 g3
          injection e with e1 e2 e3
          cases e1
          have e3 := e3.symm
          subst e3
          rw [hpe] at hc
          have hc2 := (hB2.cell (p := a.add j) (World.block_lt_of_cell? W0 _ hc)).trans hc
          have hT := catL_take hp
          have hLE1 := HLE.out (j + 1)
          rw [hT, List.length_append] at hLE1
          have hnews : ∀ (i : Nat) (u : Value), (u8s p.2)[i]? = some u → wr.cell? (ad.add i) = some u := fun i u hu => by
            unfold u8s at hu
            rw [List.getElem?_map] at hu
            obtain ⟨x, hx, rfl⟩ := Option.map_eq_some_iff.1 hu
            obtain ⟨-, -, ad', e, hcell⟩ := hbx i x hx
            cases e
            exact (hB2.cell (World.block_lt_of_cell? W0 _ hcell)).trans hcell
          have hall : ∀ u ∈ u8s p.2, u.oneCell' = true := fun u hu => by
            unfold u8s at hu
            obtain ⟨x, _, rfl⟩ := List.mem_map.1 hu
            rfl
          have hul : (u8s p.2).length = p.2.length := by simp [u8s]
          have HNEWS := Lib.hid hnews; have HALL := Lib.hid hall; have HUL := Lib.hid hul; have HT := Lib.hid hT; have HO2 := Lib.hid hown2; have HB2 := Lib.hid hB2
          obtain ⟨pl, hpl⟩ : ∃ n, p.2.length = n := ⟨_, rfl⟩
          obtain ⟨z, hz⟩ : ∃ z, (catL (L.take j)).length = z := ⟨_, rfl⟩
          have hBs := hB2.size
          rw [hpl] at hc2 hLE1 HUL
          rw [hz] at hLE1 HO2
          have HPL := Lib.hid hpl; have HZ := Lib.hid hz
          clear hnews hall hul hT hown2 hB2 h1 hp hc hbx e2 hb1 hpl hz hpe
          go_wp2_with (at_builtin; refine wpList_append_own_at _ rfl _ _ 28 rfl W0.heap.size 5 i0 (.int .u8 0) 1 1 Try.underlying28 hi' hz0 hz1 hz2 rfl (by decide) _ z _ rfl HO2.out ad pl _ (u8s p.2) rfl (by rw [HUL.out, Nat.mul_one]) HNEWS.out HALL.out (by unfold maxLen; omega) (by omega) hBs ?_; intro v' w5 hown' hgrow _ _)
          go_roundw
          case rel =>
            refine ⟨j + 1, by omega, by go_num, ?_, HB2.out.grown hgrow hBs (fun r hr => (HO2.out.lt r hr).1)⟩
            rw [HT.out, List.length_append, HZ.out, HPL.out]
            unfold u8s at hown' ⊢
            rw [List.map_append]
            exact hown'
          case measure => simp [intOf]; omega
        · have hje : j = k := by omega
          subst hje
          rw [List.take_of_length_le (by have := HLN.out; omega), HTOT.out] at hown2
          go_wp2_with fail
          go_ret
          exact ⟨_, rfl, hown2, hB2⟩
end Go.Proofs.Ytakjiicnbocjeaa
namespace Go.Proofs.Ytakjiicnbocjeaa
open Go.RowKit Go.Maps
/-- A maker that holds bs. -/
structure MK (w : World) (g : Nat) (TS : Nat → Prop) (bs : List Int) (long : Bool) : Prop where
  ex : ∃ v, w.heap[g]? = some (.cells #[v, .bool long] 104) ∧ w.ownsRow 0 5 1 v bs.length (u8s bs) ∧ ∀ b, v.ownBlock = some b → TS b ∧ b ≠ g
  own : TS g
  lt : ∀ b, TS b → b < w.heap.size
  len : (bs.length : Int) ≤ 262144
def putB (bs : List Int) (long : Bool) (c : List Int) : List Int := if long = true ∨ 262144 < bs.length + c.length then bs else bs ++ c
def putL (bs : List Int) (long : Bool) (c : List Int) : Bool := long || decide (262144 < bs.length + c.length)
theorem MK.fr {S TS : Nat → Prop} {w w' : World} {g : Nat} {bs : List Int} {long : Bool} (h : MK w g TS bs long) (hf : Fr S w w') (hS : ∀ b, TS b → ¬ S b) : MK w' g TS bs long := by
  obtain ⟨⟨v, h1, h2, h3⟩, h4, h5, h6⟩ := h
  exact ⟨⟨v, hf.at_ h1 (hS _ h4), hf.row h2 (fun b hb => hS _ (h3 b hb).1), h3⟩, h4, fun b hb => Nat.lt_of_lt_of_le (h5 b hb) hf.size, h6⟩
set_option maxRecDepth 100000 in
theorem cMNew (w : World) : Calls Try.prog 33 #[] w fun e w' => e = .returned (.pointer (some ⟨w.heap.size, 0, none⟩)) ∧ MK w' w.heap.size (fun b => b = w.heap.size) [] false ∧ Fr (fun _ => False) w w' := by
  go_enter Try.func33, Try.ntmps33
  go_wp2
  go_ret
  exact ⟨rfl, ⟨⟨_, heap_new _ _, World.ownsRow_nil _ _ _ _, fun b hb => by cases hb⟩, rfl, fun b hb => by simp [hb], by simp⟩, (Fr.refl _ _).alloc _⟩
set_option maxRecDepth 100000 in
set_option maxHeartbeats 1000000 in
theorem cPut (w : World) (g : Nat) (TS : Nat → Prop) (bs : List Int) (long : Bool) (v : Value) (L : List (Value × List Int)) (h : MK w g TS bs long) (hP : Parts w v L) (hl : (L.length : Int) ≤ 1000) (hn : ((catL L).length : Int) ≤ 1099511627776) (hn0 : 0 < (catL L).length) :
    Calls Try.prog 52 #[.pointer (some ⟨g, 0, none⟩), v] w fun e w' => e = .returned (.pointer (some ⟨g, 0, none⟩)) ∧ ∃ TS', MK w' g TS' (putB bs long (catL L)) (putL bs long (catL L)) ∧ Stp TS w w' TS' := by
  obtain ⟨i0, hi', hz0, hz1, hz2⟩ := info_parts infoU8
  go_enter Try.func52, Try.ntmps52
  go_wp2_with fail
  refine (cConcat w v L hP hl hn).mono ?_
  rintro e w1 ⟨v', rfl, hown, hB⟩
  obtain ⟨g', cap, rfl, hg', hlt'⟩ := hown.form hn0
  have hM := h.fr (Fr.below hB) (fun _ _ h => h)
  obtain ⟨⟨vm, h1, h2, h3⟩, h4, h5, h6⟩ := id hM
  have hgw : g < w.heap.size := h.lt g h.own
  have HLT := Lib.hid h.lt; have HGO := Lib.hid h4
  obtain ⟨am, cm, rfl⟩ : ∃ a c, vm = .slice a bs.length c := by
    rcases h2.2 with ⟨e1, e2⟩ | ⟨_, _, _, e1, _⟩
    · exact ⟨_, _, by rw [e1, e2]⟩
    · exact ⟨_, _, e1⟩
  have b0 := cell_obj h1 0 (.slice am bs.length cm) rfl
  have b1 := cell_obj h1 1 (.bool long) rfl
  have f0 := obj_frozen h1 0
  have f1 := obj_frozen h1 1
  obtain ⟨n, hn1⟩ : ∃ n, bs.length = n := ⟨_, rfl⟩
  obtain ⟨k, hk1⟩ : ∃ k, (catL L).length = k := ⟨_, rfl⟩
  rw [hn1] at b0 h6
  rw [hk1] at hn hn0 ⊢
  have HM := Lib.hid hM; have HN := Lib.hid hn1; have HK := Lib.hid hk1; have HB := Lib.hid hB; have HO := Lib.hid hown; have H1 := Lib.hid h1; have H2 := Lib.hid h2; have H3 := Lib.hid h3
  clear h hM h1 h2 h3 h4 h5 hn1 hk1 hB hown hP hl
  have hlong : ∀ (bs' : List Int), (bs'.length : Int) ≤ 262144 → bs' = bs → ∃ TS', MK (w1.setCell ⟨g, 1, none⟩ (.bool true)) g TS' bs' true ∧ Stp TS w (w1.setCell ⟨g, 1, none⟩ (.bool true)) TS' := by
    rintro bs' h1 rfl
    have hF : Fr (fun b => b = g) w1 (w1.setCell ⟨g, 1, none⟩ (.bool true)) := (Fr.refl (fun b => b = g) w1).setCell (p := ⟨g, 1, none⟩) (fun _ => rfl) _
    exact ⟨TS, ⟨⟨_, obj_set H1.out 1 (.bool true), hF.row H2.out (fun b hb => (H3.out b hb).2), H3.out⟩, HGO.out, fun b hb => by have := HLT.out b hb; have := HB.out.size; have := hF.size; omega, h1⟩,
      ((Fr.below HB.out).mono (S := fun _ => False) (S' := TS) (fun _ _ h => h.elim)).trans' hF (fun b _ e => e ▸ HGO.out), fun b hb => .inl hb⟩
  have HLONG := Lib.hid hlong
  clear hlong
  cases long with
  | true =>
    go_wp2_with fail
    go_ret
    have e1 : putB bs true (catL L) = bs := by simp [putB]
    have e2 : putL bs true (catL L) = true := by simp [putL]
    rw [e1, e2]
    exact ⟨rfl, HLONG.out bs (by have := HN.out; omega) rfl⟩
  | false =>
    by_cases ho : 262144 - (n : Int) < k
    · go_wp2_with fail
      go_ret
      have hov : 262144 < bs.length + (catL L).length := by have := HN.out; have := HK.out; omega
      have e1 : putB bs false (catL L) = bs := by simp [putB, hov]
      have e2 : putL bs false (catL L) = true := by simp [putL, hov]
      rw [e1, e2]
      exact ⟨rfl, HLONG.out bs (by have := HN.out; omega) rfl⟩
    · have hno : ¬ 262144 < bs.length + (catL L).length := by have := HN.out; have := HK.out; omega
      have e1 : putB bs false (catL L) = bs ++ catL L := by simp [putB, hno]
      have e2 : putL bs false (catL L) = false := by simp [putL, hno]
      have HE1 := Lib.hid e1; have HE2 := Lib.hid e2; have HNO := Lib.hid hno
      clear HLONG e1 e2 hno
      have hd : decide (262144 - (n : Int) < k) = false := by simpa using ho
      have hF : Fr (fun b => b = g) w1 (w1.setCell ⟨g, 1, none⟩ (.bool false)) := (Fr.refl (fun b => b = g) w1).setCell (p := ⟨g, 1, none⟩) (fun _ => rfl) _
      have hG := obj_set H1.out 1 (.bool false)
      have hrow := hF.row H2.out (fun b hb => (H3.out b hb).2)
      have hrowc := hF.row HO.out (fun b hb => by cases hb; show ¬ g' = g; omega)
      have hnews : ∀ (i : Nat) (u : Value), (u8s (catL L))[i]? = some u → (w1.setCell ⟨g, 1, none⟩ (.bool false)).cell? ((⟨g', 0, none⟩ : Addr).add i) = some u := fun i u hu => by
        have hi := (List.getElem?_eq_some_iff.1 hu).1
        have := hrowc.cellAt (g := g') (j := i) (by simpa [u8s] using hi)
        rw [show (⟨g', 0, none⟩ : Addr).add i = ⟨g', i, none⟩ by simp [Addr.add]; omega, this]
        exact hu
      have hall : ∀ u ∈ u8s (catL L), u.oneCell' = true := fun u hu => by
        unfold u8s at hu
        obtain ⟨x, _, rfl⟩ := List.mem_map.1 hu
        rfl
      have hul : (u8s (catL L)).length = k * 1 := by have := HK.out; simp [u8s]; exact this
      have HNEWS := Lib.hid hnews; have HALL := Lib.hid hall; have HUL := Lib.hid hul; have HROW := Lib.hid hrow; have HG := Lib.hid hG; have HF := Lib.hid hF
      rw [HN.out] at HROW
      clear hnews hall hul hrow hG hF hrowc ho
      have c0 := cell_obj HG.out 0 (.slice am n cm) (by rw [← HN.out]; rfl)
      have h3 := H3.out
      rw [HN.out] at h3
      have HNB := Lib.hid h3
      clear h3
      go_wp2_with (at_builtin; refine wpList_append_own_at _ rfl _ _ 28 rfl 0 5 i0 (.int .u8 0) 1 1 Try.underlying28 hi' hz0 hz1 hz2 rfl (by decide) (.slice am n cm) n (u8s bs) rfl HROW.out ⟨g', 0, none⟩ k _ (u8s (catL L)) rfl HUL.out HNEWS.out HALL.out (by unfold maxLen; omega) (by omega) (Nat.zero_le _) ?_; intro v' w5 hown' hgrow _ hat; obtain ⟨g5, cap5, rfl, -, hl5⟩ := hown'.form (by omega); have hG5 := (hgrow.block g (Array.getElem?_eq_some_iff.1 HG.out).1 (fun e => (HNB.out g e.symm).2 rfl)).trans HG.out; have c5 := cell_obj hG5 0 (.slice am n cm) (by rw [← HN.out]; rfl); have f5 := obj_frozen hG5 0)
      go_ret
      rw [HE1.out, HE2.out]
      have hs1 : (w1.setCell ⟨g, 1, none⟩ (.bool false)).heap.size = w1.heap.size := by simp [World.setCell]
      have hat2 : TS g5 ∧ g5 ≠ g ∨ g5 = w1.heap.size := by
        rcases hat with e | e
        · exact .inl (HNB.out g5 e.symm)
        · rw [hs1] at e; exact .inr (by injection e)
      have hBs := HB.out.size
      have hne : g5 ≠ g := by
        rcases hat2 with e | e
        · exact e.2
        · omega
      have hF6 : Fr (fun b => b = g) w5 (w5.setCell ⟨g, 0, none⟩ (.slice (some ⟨g5, 0, none⟩) (n + k) cap5)) := (Fr.refl (fun b => b = g) w5).setCell (p := ⟨g, 0, none⟩) (fun _ => rfl) _
      have hs5 := hgrow.size
      have hs6 := hF6.size
      refine ⟨rfl, fun b => TS b ∨ b = g5, ⟨⟨_, obj_set hG5 0 _, ?_, fun b hb => ?_⟩, .inl HGO.out, ?_, ?_⟩, ?_, ?_⟩
      · have hl : (bs ++ catL L).length = n + k := by rw [List.length_append, HN.out, HK.out]
        rw [hl]
        unfold u8s at hown' ⊢
        rw [List.map_append]
        exact hF6.row hown' (fun b hb => by cases hb; exact hne)
      · cases hb; exact ⟨.inr rfl, hne⟩
      · rintro b (hb | rfl)
        · have := HLT.out b hb; omega
        · omega
      · have := HNO.out; rw [List.length_append]; omega
      · refine ((((Fr.below HB.out).mono (S := fun _ => False) (S' := TS) (fun _ _ h => h.elim)).trans' HF.out (fun b _ e => e ▸ HGO.out)).trans' (Fr.grown (S := fun b => TS b) hgrow (fun r hr _ => (HNB.out r hr).1)) (fun b _ e => e)).trans' hF6 (fun b _ e => e ▸ HGO.out)
      · rintro b (hb | rfl)
        · exact .inl hb
        · rcases hat2 with e | e
          · exact .inl e.1
          · exact .inr (by omega)
end Go.Proofs.Ytakjiicnbocjeaa
