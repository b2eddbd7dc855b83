/- backoff.Timers.order: all keys, in the order in which they get due. -/
import Derived.Test.YtjkhheolklnmaaaBackC
import Derived.Test.YtjkhheolklnmaaaPlainB
import Derived.Test.YtjkhheolklnmaaaSort
import Derived.Test.YtjkhheolklnmaaaShelfA
namespace Go.Proofs.Ytjkhheolklnmaaa
open Go.RowKit Go.Maps Go.Shelf Go.Sort
theorem bKeys (m : Nat) (w : World) : Calls Try.prog 28 #[.map (some m)] w fun e w' =>
    e = .returned (.func (.func 34) #[] #[.pointer (some ⟨w.heap.size, 0, none⟩)]) ∧ w' = w.alloc (.cells #[.map (some m)] 51) :=
  callsIn_wide.1 (AnyZI.keys_in Try.laysKeys Fence.wide 3 trivial rfl (some m) w)
theorem intKeys_dat {ν : Type} (enc : ν → Value) (l : List (Int × ν)) : intKeys (ktI.dat enc l) = l.map (·.1) := by
  simp [KT.dat, intKeys, ktI, Go.intOf]
theorem bCollect {l : List (Int × Int)} (B m : Nat) (w : World) (hB : w.cell? ⟨B, 0, none⟩ = some (.map (some m))) (hBl : B < w.heap.size) (h : Mp Try.prog w 3 ktI (Value.int .i64) m l) (hl : l.length * 8 ≤ 140737488355328) :
    Calls Try.prog 32 #[.func (.func 34) #[] #[.pointer (some ⟨B, 0, none⟩)]] w fun e w' =>
      ∃ (v : Value) (ss : List Int), e = .returned v ∧ ss.Perm (l.map (·.1)) ∧ w'.ownsRow w.heap.size 3 1 v ss.length (ss.map (.int .i64)) ∧ Below w.heap.size w w' := by
  have hg := AnyZI.keys_gives (ρ := Try.laysKeys_ren) { Try.laysKeys with } Fence.wide 6 trivial rfl (by omega) B m l.length (ktI.dat (Value.int .i64) l) w hBl hB h.owns
  have hc := callsIn_wide.1 (AnyZI.collect_in Try.laysCollect Fence.wide 8 trivial trivial rfl (by omega) 34 #[.pointer (some ⟨B, 0, none⟩)] trivial
    (enters_of Try.func34 (by kernel_rfl) rfl) _ _ (by rw [dat_size]; unfold maxLen; omega) (by rw [dat_size]; exact hl) w hg)
  refine hc.mono ?_
  rintro e w' ⟨v, ss, he, hS, hrow, _, hb⟩
  rw [intKeys_dat] at hS
  exact ⟨v, ss, he, hS, hrow, hb⟩

abbrev OkI := { x : Int // okI x }
instance : Inhabited OkI := ⟨⟨0, by unfold okI; omega⟩⟩
def encO (x : OkI) : Value := .int .i64 x.1
theorem or2_neg (x y : Int) : (or2 x y < 0) ↔ (x < 0 ∨ (x = 0 ∧ y < 0)) := by unfold or2; split <;> omega
theorem cmpI_neg (x y : Int) : (cmpI x y < 0) ↔ x < y := by unfold cmpI; split <;> (try split) <;> omega
theorem cmpI_zero (x y : Int) : (cmpI x y = 0) ↔ x = y := by unfold cmpI; split <;> (try split) <;> omega
theorem cmpT_lt (l : List KV) (x y : OkI) : ltOf (fun x y : OkI => cmpT l x.1 y.1) x y = tlt (x.1, tmAt l x.1) (y.1, tmAt l y.1) := by
  unfold ltOf cmpT
  rw [Bool.eq_iff_iff, decide_eq_true_iff, tlt_iff, or2_neg, cmpI_neg, cmpI_neg, cmpI_zero]
theorem cmpT_swo (l : List KV) : SWO (ltOf (fun x y : OkI => cmpT l x.1 y.1)) where
  irrefl x := by rw [cmpT_lt]; exact tlt_irrefl _
  trans x y z h h' := by rw [cmpT_lt] at *; exact tlt_trans h h'
  ntrans x y z h h' := by
    rw [cmpT_lt] at *
    cases e : tlt (x.1, tmAt l x.1) (z.1, tmAt l z.1)
    · rfl
    · cases f : tlt (y.1, tmAt l y.1) (x.1, tmAt l x.1)
      · have := tlt_total h f
        rw [this] at e
        rw [e] at h'; cases h'
      · have := tlt_trans f e
        rw [this] at h'; cases h'
theorem cmpT_tot (l : List KV) (x y : OkI) (h : ltOf (fun x y : OkI => cmpT l x.1 y.1) x y = false) (h' : ltOf (fun x y : OkI => cmpT l x.1 y.1) y x = false) : x = y := by
  rw [cmpT_lt] at *
  have := tlt_total h h'
  exact Subtype.ext (by injection this)
theorem tmAt_mem {l : List KV} (h : KeysND l) {p : KV} (hp : p ∈ l) : tmAt l p.1 = p.2 := by
  unfold tmAt
  rw [getS_of h (v := p.2) hp]; rfl
theorem Rp.keys_sort {l X : List KV} (h : Rp l X) : (X.map (·.1)).Pairwise (fun x y => tlt (x, tmAt l x) (y, tmAt l y) = true) := by
  rw [List.pairwise_map]
  refine h.sort.imp_of_mem ?_
  intro a b ha hb hab
  rw [tmAt_mem h.nd (h.perm.mem_iff.1 ha), tmAt_mem h.nd (h.perm.mem_iff.1 hb)]
  exact hab
theorem KeysND.map {l : List KV} (h : KeysND l) : (l.map (·.1)).Nodup := by
  unfold List.Nodup
  rw [List.pairwise_map]
  exact h
/-- What the sort leaves. -/
theorem sorted_keys {l X : List KV} (h : Rp l X) {ss : List OkI} (hp : (ss.map (·.1)).Perm (l.map (·.1))) :
    (ss.mergeSort fun x y => !(ltOf (fun x y : OkI => cmpT l x.1 y.1)) y x).map (·.1) = X.map (·.1) := by
  let le := fun x y : OkI => !(ltOf (fun x y : OkI => cmpT l x.1 y.1)) y x
  have hpm := List.mergeSort_perm ss le
  have hs := List.pairwise_mergeSort (le := le) (fun a b c hab hbc => by
      simp only [le, Bool.not_eq_true'] at *
      cases e : ltOf (fun x y : OkI => cmpT l x.1 y.1) c a
      · rfl
      · have := (cmpT_swo l).ntrans c b a hbc hab
        rw [this] at e; cases e) (fun a b => by
      simp only [le]
      cases e : ltOf (fun x y : OkI => cmpT l x.1 y.1) b a
      · rfl
      · cases f : ltOf (fun x y : OkI => cmpT l x.1 y.1) a b
        · rfl
        · have := (cmpT_swo l).trans _ _ _ e f
          rw [(cmpT_swo l).irrefl] at this; cases this) ss
  have hnd : (ss.mergeSort le).Nodup := by
    have h1 : (ss.map (·.1)).Nodup := hp.nodup_iff.2 h.nd.map
    have h2 : ss.Nodup := by
      unfold List.Nodup at *
      rw [List.pairwise_map] at h1
      exact h1.imp fun {a b} hab e => hab (by rw [e])
    exact hpm.nodup_iff.2 h2
  refine sorted_one (lt := fun x y => tlt (x, tmAt l x) (y, tmAt l y)) (fun x => tlt_irrefl _) (fun x y z a b => tlt_trans a b) ?_ ?_ h.keys_sort
  · exact ((hpm.map _).trans hp).trans (h.perm.map _).symm
  · rw [List.pairwise_map]
    have := hs.and hnd
    refine this.imp ?_
    intro a b ⟨h1, h2⟩
    rw [← cmpT_lt]
    simp only [le, Bool.not_eq_true'] at h1
    cases e : ltOf (fun x y : OkI => cmpT l x.1 y.1) a b
    · exact absurd (cmpT_tot l a b e h1) h2
    · rfl
end Go.Proofs.Ytjkhheolklnmaaa
