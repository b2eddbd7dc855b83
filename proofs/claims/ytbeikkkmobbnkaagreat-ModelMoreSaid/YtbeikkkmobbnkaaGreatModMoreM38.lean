/- The keys of map[string]bool, map[int]bool, in order. -/
import Derived.Test.YtbeikkkmobbnkaaGreatShelfD
import Derived.Test.YtbeikkkmobbnkaaGreatModMoreM1
import Derived.Shelf.Abstract
namespace Go.Proofs.YtbeikkkmobbnkaaGreat
open Go.RowKit Go.Maps Go.Sort Go.Shelf Go.Proofs
theorem sortsS (m : Nat) : AnyZ.SortsIn Tryz.prog Tryz.laysSortedS_ren Fence.wide m :=
  ⟨fun blk off cap ss W hH hblk hsz => callsIn_wide.2 (AnyM.slices_Sort_string Tryz.laysSortS blk off cap ss W hH hblk hsz),
   fun p cap W => callsIn_wide.2 (AnyM.slices_Sort_string_none Tryz.laysSortS p cap W)⟩
/-- A map's keys as an iterator, and its sorted row: both contracts, at a map of strings. -/
theorem keysSorted {ν : Type} (w : World) (b : Nat) (enc : ν → Value) (l : List (Str × ν)) (h : Mp Tryz.prog w 9 ktS enc b l) (hl : (l.length : Int) ≤ 1099511627776) :
    CallsIn Fence.wide 5 Tryz.prog 34 #[.map (some b)] w (fun e w' => e = .returned (.func (.func 54) #[] #[.pointer (some ⟨w.heap.size, 0, none⟩)]) ∧ w' = w.alloc (.cells #[.map (some b)] 63)) ∧
    CallsIn Fence.wide 5 Tryz.prog 33 #[.func (.func 54) #[] #[.pointer (some ⟨w.heap.size, 0, none⟩)]] (w.alloc (.cells #[.map (some b)] 63)) (fun e w' => ∃ v, e = .returned v ∧ w'.ownsRow w.heap.size 9 1 v l.length (l.map fun p => vS p.1) ∧ Below w.heap.size w w') := by
  obtain ⟨nn, hown⟩ := id h
  have hord := riseS_of (h.ok (koS Tryz.underlying9)).2
  have hsz : Maps.size (ktS.dat enc l) = l.length := dat_size ktS enc l
  have hk : strKeys (ktS.dat enc l) = l.map (·.1) := strKeys_dat enc l
  have hsort : ∀ ss : List Str, ss.Perm (l.map (·.1)) → ss.mergeSort (fun x y => decide (x ≤ y)) = l.map (·.1) := fun ss hp => strs_sorted hord hp
  have hbl := hown.lt
  have hseq : SeqGives Fence.wide 2 Tryz.prog 54 #[.pointer (some ⟨w.heap.size, 0, none⟩)] encStr (fun ss => ss.Perm (strKeys (ktS.dat enc l))) (Maps.size (ktS.dat enc l)) (w.alloc (.cells #[.map (some b)] 63)) :=
    AnyZ.keys_gives (ρ := Tryz.laysKeysS_ren) { Tryz.laysKeysS with } Fence.wide _ trivial rfl (by omega) w.heap.size b nn _ _ (by simp) (by simp) (by
      obtain ⟨es, clock, hb, Ft, hs, hD⟩ := hown
      exact ⟨es, clock, (Below.heap_alloc _ _ b hbl).trans hb, Ft, hs, hD⟩)
  refine ⟨AnyZ.keys_in Tryz.laysKeysS Fence.wide 5 trivial rfl (some b) w, ?_⟩
  have cS := AnyZ.sorted_in Tryz.laysSortedS Fence.wide 5 trivial trivial trivial trivial rfl (by omega) (sortsS _) (enters_of Tryz.func53 (by kernel_rfl) rfl) 54 #[.pointer (some ⟨w.heap.size, 0, none⟩)] trivial (enters_of Tryz.func54 (by kernel_rfl) rfl) _ _ (by rw [hsz]; unfold maxLen; omega) (by rw [hsz]; omega) _ hseq
  change CallsIn _ _ Tryz.prog 33 _ _ _ at cS
  refine cS.mono ?_
  rintro e w' ⟨v, ss, rfl, hS, hrow, hnil, hb⟩
  rw [hk] at hS
  rw [hsort ss hS] at hrow
  have hlen : ss.length = l.length := by rw [hS.length_eq]; simp
  rw [hlen, List.map_map] at hrow
  exact ⟨v, rfl, ownsRow_base_a hrow (by simp), ((Below.refl _ w).alloc (Nat.le_refl _) _).trans (hb.mono (by simp))⟩
theorem intKeys_dat {ν : Type} (enc : ν → Value) (l : List (Int × ν)) : intKeys (ktI.dat enc l) = l.map (·.1) := by
  simp [KT.dat, intKeys, ktI, Go.intOf]
theorem keys_sorted {ν : Type} {l : List (Int × ν)} (h : l.Pairwise (fun p q => ktI.lt p.1 q.1 = true)) {ss : List Int} (hp : ss.Perm (l.map (·.1))) : ss.mergeSort (fun x y => decide (x ≤ y)) = l.map (·.1) := by
  have hlt : (l.map (·.1)).Pairwise (fun x y : Int => x < y) := by
    rw [List.pairwise_map]
    exact h.imp (fun {p q} e => by have e : decide (p.1 < q.1) = true := e; simpa using e)
  have h1 : (ss.mergeSort (fun x y => decide (x ≤ y))).Pairwise (fun x y => decide (x ≤ y) = true) := List.pairwise_mergeSort (fun a b c h1 h2 => by simp at *; omega) (fun a b => by simp; omega) ss
  have h2 : (ss.mergeSort (fun x y => decide (x ≤ y))).Perm (l.map (·.1)) := (List.mergeSort_perm ss _).trans hp
  refine h2.eq_of_pairwise (le := fun x y : Int => decide (x ≤ y) = true) (fun a b _ _ h1 h2 => by simp at *; omega) h1 (hlt.imp (fun {a b} e => by simp; omega))
theorem sortsI (m : Nat) : AnyZI.SortsIn Tryz.prog Tryz.laysSorted_ren Fence.wide m :=
  ⟨fun blk off cap ss W hH hblk hsz => callsIn_wide.2 (AnyM.slices_Sort_int Tryz.laysSort blk off cap ss W hH hblk hsz),
   fun p cap W => callsIn_wide.2 (AnyM.slices_Sort_int_none Tryz.laysSort p cap W)⟩
theorem keysSortedI {ν : Type} (w : World) (b : Nat) (enc : ν → Value) (l : List (Int × ν)) (h : Mp Tryz.prog w 3 ktI enc b l) (hl : (l.length : Int) ≤ 1099511627776) :
    CallsIn Fence.wide 5 Tryz.prog 40 #[.map (some b)] w (fun e w' => e = .returned (.func (.func 60) #[] #[.pointer (some ⟨w.heap.size, 0, none⟩)]) ∧ w' = w.alloc (.cells #[.map (some b)] 76)) ∧
    CallsIn Fence.wide 5 Tryz.prog 39 #[.func (.func 60) #[] #[.pointer (some ⟨w.heap.size, 0, none⟩)]] (w.alloc (.cells #[.map (some b)] 76)) (fun e w' => ∃ v, e = .returned v ∧ w'.ownsRow w.heap.size 3 1 v l.length (l.map fun p => .int .i64 p.1) ∧ Below w.heap.size w w') := by
  obtain ⟨nn, hown⟩ := id h
  have hord := h.ok (koI (P := Tryz.prog) Tryz.underlying3)
  have hsz : Maps.size (ktI.dat enc l) = l.length := dat_size ktI enc l
  have hk : intKeys (ktI.dat enc l) = l.map (·.1) := intKeys_dat enc l
  have hsort : ∀ ss : List Int, ss.Perm (l.map (·.1)) → ss.mergeSort (fun x y => decide (x ≤ y)) = l.map (·.1) := fun ss hp => keys_sorted hord.2 hp
  have hbl := hown.lt
  have hseq : SeqGives Fence.wide 2 Tryz.prog 60 #[.pointer (some ⟨w.heap.size, 0, none⟩)] encZ (fun ss => ss.Perm (intKeys (ktI.dat enc l))) (Maps.size (ktI.dat enc l)) (w.alloc (.cells #[.map (some b)] 76)) :=
    AnyZI.keys_gives (ρ := Tryz.laysKeysC_ren) { Tryz.laysKeysC with } Fence.wide _ trivial rfl (by omega) w.heap.size b nn _ _ (by simp) (by simp) (by
      obtain ⟨es, clock, hb, Ft, hs, hD⟩ := hown
      exact ⟨es, clock, (Below.heap_alloc _ _ b hbl).trans hb, Ft, hs, hD⟩)
  refine ⟨AnyZI.keys_in Tryz.laysKeysC Fence.wide 5 trivial rfl (some b) w, ?_⟩
  have cS := AnyZI.sorted_in Tryz.laysSorted Fence.wide 5 trivial trivial trivial trivial rfl (by omega) (sortsI _) (enters_of Tryz.func59 (by kernel_rfl) rfl) 60 #[.pointer (some ⟨w.heap.size, 0, none⟩)] trivial (enters_of Tryz.func60 (by kernel_rfl) rfl) _ _ (by rw [hsz]; unfold maxLen; omega) (by rw [hsz]; omega) _ hseq
  change CallsIn _ _ Tryz.prog 39 _ _ _ at cS
  refine cS.mono ?_
  rintro e w' ⟨v, ss, rfl, hS, hrow, hnil, hb⟩
  rw [hk] at hS
  rw [hsort ss hS] at hrow
  have hlen : ss.length = l.length := by rw [hS.length_eq]; simp
  rw [hlen, List.map_map] at hrow
  exact ⟨v, rfl, ownsRow_base_a hrow (by simp), ((Below.refl _ w).alloc (Nat.le_refl _) _).trans (hb.mono (by simp))⟩
end Go.Proofs.YtbeikkkmobbnkaaGreat
