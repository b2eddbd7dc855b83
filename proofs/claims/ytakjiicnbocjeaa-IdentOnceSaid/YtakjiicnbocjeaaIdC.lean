/- ident.Table: Ask. -/
import Derived.Test.YtakjiicnbocjeaaIdB
import Derived.StillTailTactics
import Derived.BigQuiet
namespace Go.Proofs.Ytakjiicnbocjeaa
open Go.RowKit Go.Maps
theorem mem_putS {ν : Type} {lt : Int → Int → Bool} {l : List (Int × ν)} {x : Int} {v : ν} {p : Int × ν} : p ∈ putS lt l x v ↔ p = (x, v) ∨ p ∈ delS l x := by
  rw [(putS_perm lt l x v).mem_iff]; simp
theorem mem_delS {ν : Type} {l : List (Int × ν)} {x : Int} {p : Int × ν} : p ∈ delS l x ↔ p ∈ l ∧ p.1 ≠ x := by
  simp [delS]
theorem pw_ne {α : Type} {f : α → Nat} : ∀ {l : List α}, (l.Pairwise fun p q => f p ≠ f q) → ∀ {p q : α}, p ∈ l → q ∈ l → p ≠ q → f p ≠ f q
  | [], _, _, _, h, _, _ => by cases h
  | a :: r, h, p, q, hp, hq, hne => by
    obtain ⟨h1, h2⟩ := List.pairwise_cons.1 h
    rcases List.mem_cons.1 hp with e1 | hp'
    · rcases List.mem_cons.1 hq with e2 | hq'
      · exact absurd (e1.trans e2.symm) hne
      · rw [e1]; exact h1 q hq'
    · rcases List.mem_cons.1 hq with e2 | hq'
      · rw [e2]; exact (h1 p hp').symm
      · exact pw_ne h2 hp' hq' hne
section
variable {w w' : World} {g m : Nat} {l : List (Int × Cl)}
theorem Tab.others (h : Tab w g m l) {c : Int} {x : Cl} (hx : Got w w' l c x) {p : Int × Cl} (hp : p ∈ delS l c) : p.2.b ≠ x.b := by
  obtain ⟨h1, h2⟩ := mem_delS.1 hp
  rcases hx with hx | ⟨_, _, _, hb, _⟩
  · exact pw_ne (f := fun p => p.2.b) h.dis h1 (getS_mem hx) (fun e => h2 (by rw [e]))
  · have := (h.rows p h1).lt; omega
theorem Tab.other_m (h : Tab w g m l) {c : Int} {x : Cl} (hx : Got w w' l c x) : x.b ≠ m := by
  rcases hx with hx | ⟨_, _, _, hb, _⟩
  · exact h.nb _ (getS_mem hx)
  · have := h.map.lt; omega
theorem Tab.other_g (h : Tab w g m l) {c : Int} {x : Cl} (hx : Got w w' l c x) : x.b ≠ g := by
  rcases hx with hx | ⟨_, _, _, hb, _⟩
  · exact (map_ne_cells (h.rows _ (getS_mem hx)) h.box).symm
  · have := h.glt; omega
/-- A client is put: its rows lie in a block of its own. -/
theorem Tab.put (h : Tab w g m l) {c : Int} {y : Cl} {S : Nat → Prop} (hf : Fr S w w') (hg : ¬ S g) (hS : ∀ b, S b → b = m ∨ b = y.b) (hm : Mp Try.prog w' 3 ktI Cl.enc m (putS ktI.lt l c y)) (hr : Mp Try.prog w' 3 ktI RowV.enc y.b y.rows)
    (hym : y.b ≠ m) (hyo : ∀ p ∈ delS l c, p.2.b ≠ y.b) : Tab w' g m (putS ktI.lt l c y) := by
  refine ⟨hf.at_ h.box hg, hm, ?_, ?_, ?_⟩
  · intro p hp
    rcases mem_putS.1 hp with rfl | hp
    · exact hr
    · have hpl := (mem_delS.1 hp).1
      refine hf.mp (h.rows p hpl) (fun e => ?_)
      rcases hS _ e with e | e
      · exact h.nb p hpl e
      · exact hyo p hp e
  · intro p hp
    rcases mem_putS.1 hp with rfl | hp
    · exact hym
    · exact h.nb p (mem_delS.1 hp).1
  · rw [(putS_perm ktI.lt l c y).pairwise_iff (fun {_ _} e => Ne.symm e)]
    refine List.pairwise_cons.2 ⟨fun p hp e => hyo p hp e.symm, List.Pairwise.filter _ h.dis⟩
end
/-- What Ask says: the verdict, the answer, whether the number is new. -/
def askM (x : Int × Rows) (n mix : Int) : Int × Ans × Bool :=
  if n < x.1 then (5, Ans.zero, false)
  else match getS x.2 n with
    | some r => if r.mix ≠ mix then (4, Ans.zero, false) else if r.done then (3, r.a, false) else (2, Ans.zero, false)
    | none => if 128 ≤ x.2.length then (6, Ans.zero, false) else (1, Ans.zero, true)
theorem iAsk_arg (w : World) (g m : Nat) (l : List (Int × Cl)) (c n : Int) (v : Value) (h : Tab w g m l) (hc : (isCl c && isNu n) = false) :
    Calls Try.prog 11 #[.pointer (some ⟨g, 0, none⟩), .int .i64 c, .int .i64 n, v] w fun e w' => e = .returned (.tuple #[.int .i64 0, Ans.zero.enc]) ∧ Fr (fun _ => False) w w' := by
  have hcell := (h.fr ((Fr.refl (fun _ => False) w).alloc (.cells #[.int .i64 0, .int .i64 0, .int .i64 0, .int .i64 0] 31)) (fun h => h) (fun h => h) (fun _ _ h => h)).cell
  have HC := Lib.hid (fun w => iClient? w c)
  have HN := Lib.hid (fun w => iNumber? w n)
  unfold Ans.zero Ans.enc
  clear h
  cases hi : isCl c with
  | false =>
    rw [hi] at HC
    clear hc hi
    go_enter Try.func11, Try.ntmps11
    go_wp2_with (first
      | (go_at_call 24; refine (imade _ g m hcell).mono ?_; rintro e w' ⟨rfl, rfl⟩)
      | (go_at_call 25; refine (HC.out _).mono ?_; rintro e w' ⟨rfl, rfl⟩))
    go_returns
    exact ⟨rfl, (Fr.refl _ _).alloc _⟩
  | true =>
    have hn : isNu n = false := by rw [hi] at hc; simpa using hc
    rw [hi] at HC
    rw [hn] at HN
    clear hc hi hn
    go_enter Try.func11, Try.ntmps11
    go_wp2_with (first
      | (go_at_call 24; refine (imade _ g m hcell).mono ?_; rintro e w' ⟨rfl, rfl⟩)
      | (go_at_call 25; refine (HC.out _).mono ?_; rintro e w' ⟨rfl, rfl⟩)
      | (go_at_call 26; refine (HN.out _).mono ?_; rintro e w' ⟨rfl, rfl⟩))
    go_returns
    exact ⟨rfl, (Fr.refl _ _).alloc _⟩
end Go.Proofs.Ytakjiicnbocjeaa
