/- backoff.Timers.order: walks -/
import Derived.Test.YtjkhheolklnmaaaBackD
namespace Go.Proofs.Ytjkhheolklnmaaa
open Go.RowKit Go.Maps Go.Shelf Go.Sort
set_option maxHeartbeats 1000000 in
theorem bSortedFunc {l X : List KV} (B Bt g m : Nat) (w : World) (hB : w.cell? ⟨B, 0, none⟩ = some (.map (some m))) (hBl : B < w.heap.size) (hBt : w.cell? ⟨Bt, 0, none⟩ = some (.pointer (some ⟨g, 0, none⟩)))
    (hBtl : Bt < w.heap.size) (h : Tm w g m l) (hX : Rp l X) (hl : l.length * 8 ≤ 140737488355328) :
    Calls Try.prog 27 #[.func (.func 34) #[] #[.pointer (some ⟨B, 0, none⟩)], .func (.func 29) #[] #[.pointer (some ⟨Bt, 0, none⟩)]] w fun e w' =>
      ∃ v, e = .returned v ∧ w'.ownsRow w.heap.size 3 1 v X.length ((X.map (·.1)).map (.int .i64)) ∧ Below w.heap.size w w' := by
  have hok := (h.map.ok tmK).1
  have hcol := bCollect B m w hB hBl h.map hl
  have hsort : ∀ (v : Value) (ss : List Int) (w1 : World), ss.Perm (l.map (·.1)) → w1.ownsRow w.heap.size 3 1 v ss.length (ss.map (.int .i64)) → Below w.heap.size w w1 →
      Calls Try.prog 33 #[v, .func (.func 29) #[] #[.pointer (some ⟨Bt, 0, none⟩)]] w1 fun e w' =>
        e = .returned (.tuple #[]) ∧ w'.ownsRow w.heap.size 3 1 v X.length ((X.map (·.1)).map (.int .i64)) ∧ Below w.heap.size w w' := by
    intro v ss w1 hp hown hb
    have hss : ∀ x ∈ ss, okI x := fun x hx => by
      obtain ⟨p, hp1, rfl⟩ := List.mem_map.1 (hp.mem_iff.1 hx)
      exact hok p hp1
    obtain ⟨os, rfl⟩ : ∃ os : List OkI, ss = os.map (·.1) := ⟨ss.attach.map fun x => ⟨x.1, hss x.1 x.2⟩, by simp⟩
    have e1 : (os.map (·.1)).map (Value.int .i64) = os.map encO := by rw [List.map_map]; rfl
    rw [e1, List.length_map] at hown
    have hlen : os.length = X.length := by have := hp.length_eq; rw [List.length_map, List.length_map] at this; rw [this, hX.len]
    have hbase : ∀ {r}, some r = v.ownBlock → w.heap.size ≤ r := fun {r} e => (hown.lt r e.symm).1
    have hs := sortRow (P := Try.prog) (enc := encO) Try.laysSort (fun _ => rfl) (fun x y : OkI => cmpT l x.1 y.1) (cmpT_swo l) (cmpT_tot l) 29 #[.pointer (some ⟨Bt, 0, none⟩)]
      (enters_of Try.func29 (by kernel_rfl) rfl) w1 w.heap.size 3 v os hown (by have := hX.len; omega)
      (fun W hg x y => bOrder1 W Bt g m l x.1 y.1
        (((World.cell?_of_block (a := ⟨Bt, 0, none⟩) (hg.block Bt (Nat.lt_of_lt_of_le hBtl hb.size) (fun e => by have := hbase e; omega))).trans (hb.cell (p := ⟨Bt, 0, none⟩) hBtl)).trans hBt)
        ((h.below hb h.glt h.map.lt).kept hg (fun e => by have := hbase e; have := h.glt; omega) (fun e => by have := hbase e; have := h.map.lt; omega)) x.2 y.2)
    refine hs.mono ?_
    rintro e w' ⟨he, ho, hgr⟩
    refine ⟨he, ?_, hb.grown hgr hb.size (fun k e => by exact hbase e.symm)⟩
    have e2 := sorted_keys hX hp
    rw [← e2, ← hlen, List.map_map]
    exact ho
  have HC := Lib.hid hcol; have HS := Lib.hid hsort
  clear hcol hsort hB hBt
  go_enter Try.func27, Try.ntmps27
  go_wp2_with (go_at_call 32; refine HC.out.mono ?_; rintro e w1 ⟨v, ss, rfl, hp, hown, hb⟩)
  refine (HS.out v ss w1 hp hown hb).mono ?_
  rintro e w2 ⟨rfl, ho, hb2⟩
  clear hp hown hb
  go_wp2
  go_ret
  exact ⟨v, rfl, ho, hb2⟩
theorem bOrder_no (w : World) : Calls Try.prog 26 #[.pointer none] w fun e w' => e = .returned (.slice none 0 0) ∧ w' = w.alloc (.cells #[.pointer none] 28) := by
  go_enter Try.func26, Try.ntmps26
  go_wp2_with (go_at_call 24; refine (bmade_no _).mono ?_; rintro e w' ⟨rfl, rfl⟩)
  go_ret
  exact ⟨rfl, rfl⟩
set_option maxHeartbeats 1000000 in
theorem bOrder {l X : List KV} (g m : Nat) (w : World) (h : Tm w g m l) (hX : Rp l X) (hl : l.length * 8 ≤ 140737488355328) :
    Calls Try.prog 26 #[.pointer (some ⟨g, 0, none⟩)] w fun e w' =>
      ∃ v, e = .returned v ∧ w'.ownsRow w.heap.size 3 1 v X.length ((X.map (·.1)).map (.int .i64)) ∧ Below w.heap.size w w' := by
  have hc := h.cell
  have hc1 : (w.alloc (.cells #[.pointer (some ⟨g, 0, none⟩)] 28)).cell? ⟨g, 0, none⟩ = some (.map (some m)) := (h.alloc _).cell
  have b1 := (Boxed.new w 28 (.pointer (some ⟨g, 0, none⟩))).alloc (.cells #[.map (some m)] 51)
  have b2 := Boxed.new (w.alloc (.cells #[.pointer (some ⟨g, 0, none⟩)] 28)) 51 (.map (some m))
  rw [World.size_alloc] at b2
  have hS := fun (w2 : World) (e : w2 = (w.alloc (.cells #[.pointer (some ⟨g, 0, none⟩)] 28)).alloc (.cells #[.map (some m)] 51)) =>
    bSortedFunc (l := l) (X := X) (w.heap.size + 1) w.heap.size g m w2 (by rw [e]; exact b2.cell) (by rw [e]; exact b2.lt) (by rw [e]; exact b1.cell) (by rw [e]; exact b1.lt) (by rw [e]; exact (h.alloc _).alloc _) hX hl
  have HS := Lib.hid hS
  clear hS hX h b1 b2
  go_enter Try.func26, Try.ntmps26
  go_wp2_with (first
    | (go_at_call 24; refine (bmade _ g m hc1).mono ?_; rintro e w' ⟨rfl, rfl⟩)
    | (go_at_call 28; refine (bKeys _ _).mono ?_; rintro e w' ⟨rfl, rfl⟩)
    | (go_at_call 27; refine (HS.out _ rfl).mono ?_; rintro e w' ⟨v, rfl, ho, hb⟩))
  go_ret
  exact ⟨v, rfl, ownsRow_base_a ho (by simp; omega), (((Below.refl _ w).alloc (Nat.le_refl _) _).alloc (by simp) _).trans (hb.mono (by simp; omega))⟩
end Go.Proofs.Ytjkhheolklnmaaa
