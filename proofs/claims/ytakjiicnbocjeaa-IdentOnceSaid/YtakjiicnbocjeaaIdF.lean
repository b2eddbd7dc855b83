/- ident: maps.DeleteFunc on rows. -/
import Derived.Test.YtakjiicnbocjeaaIdC
import Derived.Lib.SlMapFilter
import Derived.Laws.IdiomRangeMap
namespace Go.Proofs.Ytakjiicnbocjeaa
open Go.RowKit Go.Maps
/-- The closure: is a number below the mark? -/
theorem iLow1 (w : World) (B : Nat) (mk n : Int) (r : RowV) (hB : w.cell? ⟨B, 0, none⟩ = some (.int .i64 mk)) :
    Calls Try.prog 30 #[.int .i64 n, r.enc, .pointer (some ⟨B, 0, none⟩)] w fun e w' => e = .returned (.bool (decide (n < mk))) ∧ w' = w.alloc (.cells #[.int .u64 r.mix, .bool r.done, .int .i64 r.a.c, .int .i64 r.a.n, .int .i64 r.a.code, .int .i64 r.a.k] 73) := by
  have hlt : B < w.heap.size := World.block_lt_of_cell? w _ hB
  unfold RowV.enc
  go_enter Try.func30, Try.ntmps30
  go_wp2
  go_ret
  exact ⟨rfl, rfl⟩
/-- An entry that came out of a range is one of the list's. -/
theorem came {P : Program} {k : TypeId} {κ ν : Type} [DecidableEq κ] {T : KT κ} {enc : ν → Value} (K : KO P k T) {l : List (κ × ν)} {x : κ} {v : Value} (h : ∀ zd, (T.dat enc l).atKey (T.lit x) zd = .held v) : ∃ r, getS l x = some r ∧ v = enc r := by
  have h0 := h .nil
  rw [dat_at K] at h0
  cases hg : getS l x with
  | none => rw [hg] at h0; cases h0
  | some r => rw [hg] at h0; injection h0 with h0; exact ⟨r, rfl, h0.symm⟩
def litBelow (mk : Int) : Lit → DataW Value → Bool
  | .int _ n, _ => decide (n < mk)
  | _, _ => false
theorem Fk_dat (mk : Int) (l : Rows) (left : Lit → Bool) : Fk (litBelow mk) (l.map fun p => (Lit.int .i64 p.1, (.held p.2.enc : DataW Value))) left = ktI.dat RowV.enc (l.filter fun p => !decide (p.1 < mk) || left (.int .i64 p.1)) := by
  unfold Fk KT.dat
  rw [List.filter_map]
  rfl
set_option maxRecDepth 100000 in
set_option maxHeartbeats 4000000 in
theorem mDelete (w : World) (b B : Nat) (l : Rows) (mk : Int) (hm : Mp Try.prog w 3 ktI RowV.enc b l) (hB : w.heap[B]? = some (.cells #[.int .i64 mk] 3)) :
    Calls Try.prog 29 #[.map (some b), .func (.func 30) #[] #[.pointer (some ⟨B, 0, none⟩)]] w fun e w' =>
      e = .returned (.tuple #[]) ∧ Mp Try.prog w' 3 ktI RowV.enc b (l.filter fun p => !decide (p.1 < mk)) ∧ Fr (fun x => x = b) w w' := by
  obtain ⟨n, hown⟩ := hm
  have hBb : B ≠ b := map_ne_cells ⟨n, hown⟩ hB
  have K : Keyed Try.prog 3 := idK.keyed
  obtain ⟨es0, hes, hap, hkeys⟩ := hown.entries K
  have hes' : es0 = l.map fun p => (Lit.int .i64 p.1, (.held p.2.enc : DataW Value)) := by injection hes with h; exact h.symm
  have HB := Lib.hid hB
  have HAP := Lib.hid hap
  have HKY := Lib.hid hkeys
  rw [hes] at hown
  clear hB hap hkeys hes
  go_enter Try.func29, Try.ntmps29
  go_wp2_with (at_range; refine wpList_range_own _ rfl _ 66 rfl 3 73 K Try.underlying66 heldR b n _ rfl hown ?_; intro w0 hrg0 hg0 hs0)
  go_frame
  have HE := Lib.hid hes'
  clear hes'
  go_loopw [] (fun wr => ∃ (left : Lit → Bool) (cnt : Nat), wr.ranges Try.prog 3 heldR b w.heap.size n (Fk (litBelow mk) es0 left) left cnt ∧ Fr (fun x => x = b) w wr)
    (fun wr => wr.rangeLeft b w.heap.size)
  case atStart => exact ⟨_, _, by rw [Fk_start HKY.out]; exact hrg0, Fr.grown hg0 (fun _ e => by cases e)⟩
  case round =>
    obtain ⟨left, cnt, hrg, hF⟩ := hrel
    clear hrg0 hg0 hs0
    have HF := Lib.hid hF
    clear hF
    go_wp2_with (at_next; refine wpList_next_ranges _ rfl _ rfl 3 K heldR id id (fun key _ _ => ⟨key, rfl⟩) (fun v _ _ => ⟨v, rfl⟩) b w.heap.size n _ _ _ rfl hrg ?_ ?_)
    · intro _ hl0
      go_wp2
      go_end0
      refine ⟨rfl, ⟨n, ?_⟩, HF.out⟩
      have ho := hrg.owns
      rw [HE.out, Fk_dat] at ho
      have : (l.filter fun p => !decide (p.1 < mk) || left (.int .i64 p.1)) = l.filter fun p => !decide (p.1 < mk) := List.filter_congr (fun p _ => by simp [hl0])
      rw [this] at ho
      exact ho
    · intro x c kl yd yp w1 cnt1 hkey hlx hv hat hrg1 hlt hg1 hs1 hen
      obtain ⟨xi, hok, hx, hkl⟩ := idK.back hkey
      have hx' : x = .int .i64 xi := hx
      have hkl' : kl = .int .i64 xi := hkl
      clear hkl
      subst hx' hkl'
      have hy : yd = .held c := by simp only [heldR, id] at hv; injection hv with hv; injection hv with hv _; exact hv.symm
      subst hy
      have hat2 := hat
      rw [HE.out, Fk_dat] at hat2
      obtain ⟨r, -, rfl⟩ := came idK hat2
      have HG1 := Lib.hid hg1; have HRG := Lib.hid hrg1; have HAT := Lib.hid hat; have HLX := Lib.hid hlx
      have HF1 := Lib.hid (HF.out.trans' (Fr.grown (S := fun z => z = w.heap.size) hg1 (fun _ e _ => by injection e with e; exact e.symm)) (fun b hb e => by omega))
      have hen' : (Instr.entry (.pointer (some ⟨w.heap.size, 0, none⟩))).run Try.prog w1 = .ok (.tuple #[.int .i64 xi, .agg #[.int .u64 r.mix, .bool r.done, .int .i64 r.a.c, .int .i64 r.a.n, .int .i64 r.a.code, .int .i64 r.a.k]]) w1 := hen
      clear hat hat2 hlx hg1 hrg1 hen hv hs1 hkey hx
      go_wp2_with fail
      have hcell := cell_obj ((HF1.out.alloc (.cells #[.int .u64 r.mix, .bool r.done, .int .i64 r.a.c, .int .i64 r.a.n, .int .i64 r.a.code, .int .i64 r.a.k] 73)).at_ HB.out hBb) 0 (.int .i64 mk) rfl
      refine (iLow1 _ B mk xi r hcell).mono ?_
      rintro e w2 ⟨rfl, rfl⟩
      have hrg2 := (HRG.out.alloc (.cells #[.int .u64 r.mix, .bool r.done, .int .i64 r.a.c, .int .i64 r.a.n, .int .i64 r.a.code, .int .i64 r.a.k] 73)).alloc (.cells #[.int .u64 r.mix, .bool r.done, .int .i64 r.a.c, .int .i64 r.a.n, .int .i64 r.a.code, .int .i64 r.a.k] 73)
      have HF2 := Lib.hid ((HF1.out.alloc (.cells #[.int .u64 r.mix, .bool r.done, .int .i64 r.a.c, .int .i64 r.a.n, .int .i64 r.a.code, .int .i64 r.a.k] 73)).alloc (.cells #[.int .u64 r.mix, .bool r.done, .int .i64 r.a.c, .int .i64 r.a.n, .int .i64 r.a.code, .int .i64 r.a.k] 73))
      have hkey : keyOf Try.prog 3 (.int .i64 xi) = some (.int .i64 xi) := idK.key hok
      have HLE := Lib.hid hrg.left_eq
      clear hcell HF1 HRG hen' hrg
      by_cases hbl : xi < mk
      · go_wp2_with (at_delete; refine wpList_delete_ranges _ rfl _ _ 66 3 rfl 73 K Try.underlying66 heldR b w.heap.size n _ _ _ rfl hrg2 _ _ rfl hkey ?_; intro w3 cnt3 hrg3 hle hturn; go_frame)
        rw [strike_twice] at hrg3
        go_roundw
        case rel =>
          refine ⟨fun z => left z && !z.sameKey (.int .i64 xi), cnt3, ?_, HF2.out.trans' (Fr.turned (S := fun x => x = b) hturn rfl) (fun _ _ e => e)⟩
          rw [← Fk_struck HAP.out (K.key hkey) HLX.out (by simp [litBelow, hbl]) HAT.out]
          exact hrg3
        case measure => rw [hrg3.left_eq, HLE.out]; omega
      · go_wp2_with fail
        go_roundw
        case rel =>
          refine ⟨fun z => left z && !z.sameKey (.int .i64 xi), cnt1, ?_, HF2.out⟩
          rw [← Fk_stays HAP.out (K.key hkey) HLX.out (by simp [litBelow, hbl]) HAT.out]
          exact hrg2
        case measure => rw [hrg2.left_eq, HLE.out]; exact hlt
end Go.Proofs.Ytakjiicnbocjeaa
