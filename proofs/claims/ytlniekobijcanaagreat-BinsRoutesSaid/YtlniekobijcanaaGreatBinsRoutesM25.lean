/- bins: Route of a floor, and of none. -/
import Derived.Test.YtlniekobijcanaaGreatBinsRoutesM24
namespace Go.Proofs.YtlniekobijcanaaGreat
open Go.RowKit Go.Maps
theorem fcmpI_lt {a b : Int} : cmpI a b < 0 ↔ a < b := by
  unfold cmpI
  by_cases h : a < b
  · simp [h]
  · by_cases h2 : b < a <;> simp [h, h2]
theorem fcmpI_zero {a b : Int} : cmpI a b = 0 ↔ a = b := by
  unfold cmpI
  by_cases h : a < b
  · simp [h]; omega
  · by_cases h2 : b < a
    · simp [h, h2]; omega
    · simp [h, h2]; omega
theorem fcmpI_in (a b : Int) : -1 ≤ cmpI a b ∧ cmpI a b ≤ 1 := by
  unfold cmpI
  split
  · omega
  · split <;> omega
theorem fcmpS_lt {a b : Str} : cmpStr a b < 0 ↔ a < b := by
  unfold cmpStr
  by_cases h : a < b
  · simp [h]
  · by_cases h2 : b < a <;> simp [h, h2]
theorem fcmpS_in (a b : Str) : -1 ≤ cmpStr a b ∧ cmpStr a b ≤ 1 := by
  unfold cmpStr
  split
  · omega
  · split <;> omega
/-- An order of those that are something. -/
def optC {α γ : Type} (f : α → Option γ) (cf : γ → γ → Int) (x y : α) : Int :=
  match f x, f y with
  | some a, some b => cf a b
  | some _, none => -2
  | none, _ => 2
theorem optC_in {α γ : Type} {f : α → Option γ} {cf : γ → γ → Int} {x y : α} (h : -1 ≤ optC f cf x y ∧ optC f cf x y ≤ 1) : ∃ a b, f x = some a ∧ f y = some b ∧ optC f cf x y = cf a b := by
  unfold optC at *
  cases hx : f x with
  | none => rw [hx] at h; dsimp only at h; omega
  | some a =>
    cases hy : f y with
    | none => rw [hx, hy] at h; dsimp only at h; omega
    | some b => exact ⟨a, b, rfl, rfl, rfl⟩
theorem optC_some {α γ : Type} {f : α → Option γ} {cf : γ → γ → Int} {x y : α} {a b : γ} (hx : f x = some a) (hy : f y = some b) : optC f cf x y = cf a b := by unfold optC; rw [hx, hy]
theorem swo_optC {α γ : Type} {f : α → Option γ} {cf : γ → γ → Int} (h : SwoB (fun a b => decide (cf a b < 0))) : SwoB (fun x y => decide (optC f cf x y < 0)) := by
  have key : ∀ x y, (∃ a b, f x = some a ∧ f y = some b ∧ optC f cf x y = cf a b) ∨ (∃ a, f x = some a ∧ f y = none ∧ optC f cf x y = -2) ∨ (f x = none ∧ optC f cf x y = 2) := fun x y => by
    unfold optC
    cases h1 : f x with
    | none => right; right; exact ⟨rfl, rfl⟩
    | some a =>
      cases h2 : f y with
      | none => right; left; exact ⟨a, rfl, rfl, rfl⟩
      | some b => left; exact ⟨a, b, rfl, rfl, rfl⟩
  refine ⟨fun x => ?_, fun x y z h1 h2 => ?_, fun x y z h1 h2 => ?_⟩
  · rcases key x x with ⟨a, b, e1, e2, e3⟩ | ⟨a, e1, e2, e3⟩ | ⟨e1, e3⟩
    · rw [e1] at e2; cases e2; rw [e3]; exact h.irr a
    · rw [e1] at e2; cases e2
    · rw [e3]; rfl
  · rcases key x y with ⟨a, b, e1, e2, e3⟩ | ⟨a, e1, e2, e3⟩ | ⟨e1, e3⟩
    · rcases key y z with ⟨b', c, f1, f2, f3⟩ | ⟨b', f1, f2, f3⟩ | ⟨f1, f3⟩
      · rw [e2] at f1; cases f1
        rcases key x z with ⟨a', c', g1, g2, g3⟩ | ⟨a', g1, g2, g3⟩ | ⟨g1, g3⟩
        · rw [e1] at g1; cases g1; rw [f2] at g2; cases g2
          rw [g3]; rw [e3] at h1; rw [f3] at h2; exact h.tr _ _ _ h1 h2
        · rw [f2] at g2; cases g2
        · rw [e1] at g1; cases g1
      · rcases key x z with ⟨a', c', g1, g2, g3⟩ | ⟨a', g1, g2, g3⟩ | ⟨g1, g3⟩
        · rw [f2] at g2; cases g2
        · rw [g3]; rfl
        · rw [e1] at g1; cases g1
      · rw [e2] at f1; cases f1
    · rcases key y z with ⟨b', c, f1, f2, f3⟩ | ⟨b', f1, f2, f3⟩ | ⟨f1, f3⟩
      · rw [e2] at f1; cases f1
      · rw [e2] at f1; cases f1
      · rw [f3] at h2; cases h2
    · rw [e3] at h1; cases h1
  · rcases key x z with ⟨a, c, e1, e2, e3⟩ | ⟨a, e1, e2, e3⟩ | ⟨e1, e3⟩
    · rcases key x y with ⟨a', b, f1, f2, f3⟩ | ⟨a', f1, f2, f3⟩ | ⟨f1, f3⟩
      · rcases key y z with ⟨b', c', g1, g2, g3⟩ | ⟨b', g1, g2, g3⟩ | ⟨g1, g3⟩
        · rw [f2] at g1; cases g1; rw [e1] at f1; cases f1; rw [e2] at g2; cases g2
          rw [e3]; rw [f3] at h1; rw [g3] at h2; exact h.ntr _ _ _ h1 h2
        · rw [e2] at g2; cases g2
        · rw [f2] at g1; cases g1
      · rw [f3] at h1; cases h1
      · rw [e1] at f1; cases f1
    · rcases key x y with ⟨a', b, f1, f2, f3⟩ | ⟨a', f1, f2, f3⟩ | ⟨f1, f3⟩
      · rcases key y z with ⟨b', c', g1, g2, g3⟩ | ⟨b', g1, g2, g3⟩ | ⟨g1, g3⟩
        · rw [e2] at g2; cases g2
        · rw [g3] at h2; cases h2
        · rw [f2] at g1; cases g1
      · rw [f3] at h1; cases h1
      · rw [e1] at f1; cases f1
    · rw [e3]; rfl
/-- Where a bin stands in its zone. -/
def kN (b : BE) : Int := if b.zo.tmod 2 = 1 then - b.nu else b.nu
/-- Two places by the way. -/
def compE (x y : BE × Str) : Int :=
  if cmpI x.1.zo y.1.zo ≠ 0 then cmpI x.1.zo y.1.zo else or2 (if x.1.zo.tmod 2 = 1 then wrap64 (- cmpI x.1.nu y.1.nu) else cmpI x.1.nu y.1.nu) (cmpStr x.2 y.2)
theorem compE_e (a b : BV) (s t : Str) : compF a b s t = compE (a.e, s) (b.e, t) := rfl
theorem wrap_small {x : Int} (h : -1 ≤ x ∧ x ≤ 1) : wrap64 (-x) = -x := by unfold wrap64; omega
theorem compE_in (x y : BE × Str) : -1 ≤ compE x y ∧ compE x y ≤ 1 := by
  have h1 := fcmpI_in x.1.zo y.1.zo
  have h2 := fcmpI_in x.1.nu y.1.nu
  have h3 := fcmpS_in x.2 y.2
  unfold compE or2
  rw [wrap_small h2]
  split
  · exact h1
  · split <;> split <;> omega
theorem compE_lt {x y : BE × Str} : compE x y < 0 ↔ x.1.zo < y.1.zo ∨ (x.1.zo = y.1.zo ∧ (kN x.1 < kN y.1 ∨ (kN x.1 = kN y.1 ∧ x.2 < y.2))) := by
  have h1 : cmpI x.1.zo y.1.zo < 0 ↔ x.1.zo < y.1.zo := fcmpI_lt
  have h2 : cmpI x.1.nu y.1.nu < 0 ↔ x.1.nu < y.1.nu := fcmpI_lt
  have g1 : cmpI x.1.zo y.1.zo = 0 ↔ x.1.zo = y.1.zo := fcmpI_zero
  have g2 : cmpI x.1.nu y.1.nu = 0 ↔ x.1.nu = y.1.nu := fcmpI_zero
  have h3 : cmpStr x.2 y.2 < 0 ↔ x.2 < y.2 := fcmpS_lt
  unfold compE or2 kN
  rw [wrap_small (fcmpI_in _ _)]
  by_cases e : cmpI x.1.zo y.1.zo = 0
  · rw [if_neg (by simpa using e)]
    have e' := g1.1 e
    rw [← e']
    by_cases o : x.1.zo.tmod 2 = 1
    · rw [if_pos o, if_pos o, if_pos o]
      by_cases z : cmpI x.1.nu y.1.nu = 0
      · rw [if_pos (by omega)]; have := g2.1 z; rw [h3]; constructor
        · intro h; exact .inr ⟨rfl, .inr ⟨by omega, h⟩⟩
        · rintro (h | ⟨-, h | ⟨-, h⟩⟩)
          · omega
          · omega
          · exact h
      · rw [if_neg (by omega)]; constructor
        · intro h; exact .inr ⟨rfl, .inl (by omega)⟩
        · rintro (h | ⟨-, h | ⟨h, -⟩⟩) <;> omega
    · rw [if_neg o, if_neg o, if_neg o]
      by_cases z : cmpI x.1.nu y.1.nu = 0
      · rw [if_pos z]; have := g2.1 z; rw [h3]; constructor
        · intro h; exact .inr ⟨rfl, .inr ⟨by omega, h⟩⟩
        · rintro (h | ⟨-, h | ⟨-, h⟩⟩)
          · omega
          · omega
          · exact h
      · rw [if_neg z]; constructor
        · intro h; exact .inr ⟨rfl, .inl (by omega)⟩
        · rintro (h | ⟨-, h | ⟨h, -⟩⟩) <;> omega
  · rw [if_pos (by simpa using e)]; constructor
    · intro h; exact .inl (by omega)
    · rintro (h | ⟨h, -⟩) <;> omega
theorem str_ntr {a b c : Str} (h1 : ¬ a < b) (h2 : ¬ b < c) : ¬ a < c := fun h => by
  rcases str_tri b a with g | g | g
  · exact h2 (str_trans g h)
  · exact h2 (g ▸ h)
  · exact h1 g
theorem compE_swo : SwoB (fun x y => decide (compE x y < 0)) := by
  refine ⟨fun a => ?_, fun a b c h1 h2 => ?_, fun a b c h1 h2 => ?_⟩
  · refine decide_eq_false (fun h => ?_)
    rcases compE_lt.1 h with h | ⟨-, h | ⟨-, h⟩⟩
    · omega
    · omega
    · exact str_irr _ h
  · refine decide_eq_true (compE_lt.2 ?_)
    rcases compE_lt.1 (of_decide_eq_true h1) with h1 | ⟨e1, h1 | ⟨k1, h1⟩⟩ <;> rcases compE_lt.1 (of_decide_eq_true h2) with h2 | ⟨e2, h2 | ⟨k2, h2⟩⟩
    · left; omega
    · left; omega
    · left; omega
    · left; omega
    · right; exact ⟨by omega, .inl (by omega)⟩
    · right; exact ⟨by omega, .inl (by omega)⟩
    · left; omega
    · right; exact ⟨by omega, .inl (by omega)⟩
    · right; exact ⟨by omega, .inr ⟨by omega, str_trans h1 h2⟩⟩
  · refine decide_eq_false (fun h => ?_)
    have h1 := fun e => of_decide_eq_false h1 (compE_lt.2 e)
    have h2 := fun e => of_decide_eq_false h2 (compE_lt.2 e)
    have n1 : ¬ a.1.zo < b.1.zo := fun e => h1 (.inl e)
    have n2 : ¬ b.1.zo < c.1.zo := fun e => h2 (.inl e)
    rcases compE_lt.1 h with h | ⟨e, h | ⟨k, h⟩⟩
    · omega
    · have m1 : ¬ kN a.1 < kN b.1 := fun e' => h1 (.inr ⟨by omega, .inl e'⟩)
      have m2 : ¬ kN b.1 < kN c.1 := fun e' => h2 (.inr ⟨by omega, .inl e'⟩)
      omega
    · have m1 : ¬ kN a.1 < kN b.1 := fun e' => h1 (.inr ⟨by omega, .inl e'⟩)
      have m2 : ¬ kN b.1 < kN c.1 := fun e' => h2 (.inr ⟨by omega, .inl e'⟩)
      exact str_ntr (fun e' => h1 (.inr ⟨by omega, .inr ⟨by omega, e'⟩⟩)) (fun e' => h2 (.inr ⟨by omega, .inr ⟨by omega, e'⟩⟩)) h
def binE (L : List BE) (n : Int) : Option BE := L.find? (fun b => decide (b.nu = n))
def findE (L : List BE) (n : Int) : Int := idxOf (fun b => decide (b.nu = n)) L
theorem findE_e (L : List BV) (n : Int) : findF L n = findE (L.map BV.e) n := by
  unfold findF findE idxOf
  rw [List.findIdx?_map]; rfl
theorem binE_e (L : List BV) (n : Int) : binE (L.map BV.e) n = (binF L n).map BV.e := by
  unfold binE binF
  rw [List.find?_map]; rfl
/-- The order of the way. -/
def cR (L : List BE) : PV → PV → Int := optC (fun p => (binE L p.b).map fun b => (b, p.g)) compE
theorem cR_swo (L : List BE) : SwoB (fun x y => decide (cR L x y < 0)) := swo_optC compE_swo
theorem findE_cases (L : List BE) (n : Int) : (findE L n = -1 ∧ binE L n = none) ∨ ∃ (j : Nat) (x : BE), L[j]? = some x ∧ x.nu = n ∧ findE L n = j ∧ binE L n = some x := by
  rcases idxOf_cases (fun b : BE => decide (b.nu = n)) L with ⟨h1, h2, -⟩ | ⟨j, x, h1, h2, h3, h4⟩
  · exact .inl ⟨h1, h2⟩
  · exact .inr ⟨j, x, h1, of_decide_eq_true h2, h3, h4⟩
/-- What Route answers. -/
def thereE (L : List BE) (l : List PV) : List PV := l.filter fun p => !(findE L p.b == -1)
def routeE (L : List BE) (l : List PV) : List PV := stab (fun x y => decide (cR L x y < 0)) (thereE L l)
theorem cR_there {L : List BE} {l : List PV} {x : PV} (h : x ∈ thereE L l) : ∃ b, binE L x.b = some b := by
  have h2 := (List.mem_filter.1 h).2
  rcases findE_cases L x.b with ⟨h3, -⟩ | ⟨j, b, -, -, -, h4⟩
  · rw [h3] at h2; simp at h2
  · exact ⟨b, h4⟩
theorem cR_in {L : List BE} {l : List PV} : ∀ x ∈ thereE L l, ∀ y ∈ thereE L l, -1 ≤ cR L x y ∧ cR L x y ≤ 1 := fun x hx y hy => by
  obtain ⟨a, ha⟩ := cR_there hx
  obtain ⟨b, hb⟩ := cR_there hy
  unfold cR
  rw [optC_some (a := (a, x.g)) (b := (b, y.g)) (by rw [ha]; rfl) (by rw [hb]; rfl)]
  exact compE_in _ _
/-- Route of a floor. -/
theorem bRouteF (w : World) (g : Nat) (v : Value) (L : List BV) (l : List PV) (hF : Fl w g L) (hL : 0 < L.length) (h : Pl w v l) (hl : l.length ≤ 1000000000000) :
    Calls Tryz.prog 13 #[.pointer (some ⟨g, 0, none⟩), v] w fun e w' => ∃ v', e = .returned v' ∧ Pl w' v' (routeE (L.map BV.e) l) ∧ (∀ c, v'.ownBlock = some c → w.heap.size ≤ c) ∧ Fr (fun _ => False) w w' := by
  refine bRoute w (some ⟨g, 0, none⟩) v l (findE (L.map BV.e)) (cR (L.map BV.e)) h (by omega) (Nat.le_trans (List.length_filter_le _ _) hl) (fun W n hf => ?_) (fun W x y hf hin => ?_) (cR_swo _) cR_in
  · rw [← findE_e]
    exact bFind W g L n (hF.keep hf) hL
  · obtain ⟨a, b, h1, h2, h3⟩ := optC_in hin
    have e3 : cR (L.map BV.e) x y = compE a b := h3
    rw [binE_e] at h1 h2
    rcases idxOf_cases (fun b : BV => decide (b.nu = x.b)) L with ⟨-, k2, -⟩ | ⟨i, A, k1, -, k3, k4⟩
    · have k2 : binF L x.b = none := k2
      rw [k2] at h1; cases h1
    · rcases idxOf_cases (fun b : BV => decide (b.nu = y.b)) L with ⟨-, j2, -⟩ | ⟨j, B, j1, -, j3, j4⟩
      · have j2 : binF L y.b = none := j2
        rw [j2] at h2; cases h2
      · have k4 : binF L x.b = some A := k4
        have j4 : binF L y.b = some B := j4
        rw [k4] at h1; rw [j4] at h2
        cases h1; cases h2
        rw [e3, ← compE_e]
        exact bComp W g L x y A B i j (hF.keep hf) k3 k1 j3 j1
/-- Route of none. -/
theorem bRouteN (w : World) (v : Value) (l : List PV) (h : Pl w v l) (hl : l.length ≤ 4398046510976) (hfd : ∀ W n, Calls Tryz.prog 39 #[.pointer none, .int .i64 n] W fun e w' => e = .returned (.int .i64 (-1)) ∧ Fr (fun _ => False) W w') :
    Calls Tryz.prog 13 #[.pointer none, v] w fun e w' => ∃ v', e = .returned v' ∧ Pl w' v' [] ∧ (∀ c, v'.ownBlock = some c → w.heap.size ≤ c) ∧ Fr (fun _ => False) w w' := by
  have hn : (l.filter fun p => !((fun _ : Int => (-1 : Int)) p.b == -1)) = [] := by simp
  have hr := bRoute w none v l (fun _ => -1) (fun _ _ => 2) h hl (by rw [hn]; simp) (fun W n _ => hfd W n) (fun W x y _ hin => by omega) ⟨fun _ => rfl, fun _ _ _ h => by simp at h, fun _ _ _ _ _ => rfl⟩ (by rw [hn]; intro x hx; cases hx)
  rw [hn] at hr
  exact hr
end Go.Proofs.YtlniekobijcanaaGreat
