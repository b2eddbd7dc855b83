/- entrepotref07: right, move. -/
import Derived.Test.YtclgmnobockfnaaStkDoesM17
import Derived.Test.YtclgmnobockfnaaStkDoesM2
namespace Go.Proofs.Ytclgmnobockfnaa
open Go.RowKit Go.Maps
/-- A row of the document's stock, as cells. -/
def rowV (g : Str) (r : SR) : Array Value := #[vS g, .int .i64 r.free, .int .i64 r.held, .int .i64 r.picked, .int .i64 r.aside, .int .i64 r.received, .int .i64 r.returned, .int .i64 r.counted, .int .i64 r.came, .int .i64 r.shipped, .int .i64 r.scrapped, .int .i64 r.sent]
set_option maxRecDepth 100000 in
set_option maxHeartbeats 4000000 in
theorem r7Right (w : World) (g : Str) (r : SR) : Calls Try.prog 52 #[.agg (rowV g r)] w fun e w' => e = .returned (.bool r.right) ∧ Fr (fun _ => False) w w' := by
  have HE := Lib.hid (fun W => r7Each W r)
  have HSm := Lib.hid (fun W => r7Sum W r)
  obtain ⟨n0, hn0⟩ : ∃ n0, w.heap.size = n0 := ⟨_, rfl⟩
  have hb : (w.alloc (.cells (rowV g r) 96)).heap[n0]? = some (.cells (rowV g r) 96) := by rw [← hn0]; exact heap_new _ _
  have hf : Fr (fun _ => False) w (w.alloc (.cells (rowV g r) 96)) := (Fr.refl _ w).alloc _
  obtain ⟨W0, hW0⟩ : ∃ W0, w.alloc (.cells (rowV g r) 96) = W0 := ⟨_, rfl⟩
  rw [hW0] at hb hf
  have HB := Lib.hid hb; have HF0 := Lib.hid hf
  clear hf
  unfold SR.lev SR.flo at HE
  unfold SR.lev at HSm
  unfold rowV at HB hW0 hb ⊢
  have hEc : Hid (r.right = (r.each && mayI r.sum)) := Lib.hid rfl
  obtain ⟨G, hG⟩ : ∃ G, r.right = G := ⟨_, rfl⟩
  rw [hG] at hEc ⊢
  clear hG
  obtain ⟨E, hE⟩ : ∃ E, r.each = E := ⟨_, rfl⟩
  have HSm2 : Hid (E = true → ∀ W, Calls Try.prog 55 #[.agg #[.int .i64 r.free, .int .i64 r.held, .int .i64 r.picked, .int .i64 r.aside]] W fun e w' => e = .returned (.int .i64 r.sum) ∧ Fr (fun _ => False) W w') := Lib.hid (fun e W => HSm.out W (SR.each_iff.1 (by rw [hE]; exact e)))
  obtain ⟨S, hS⟩ : ∃ S, r.sum = S := ⟨_, rfl⟩
  rw [hE] at HE
  rw [hE, hS] at hEc
  rw [hS] at HSm2
  clear HSm hE hS
  obtain ⟨f0, f1, f2, f3, f4, f5, f6, f7, f8, f9, f10⟩ := r
  dsimp only at HE HSm2 HB hW0 hb ⊢
  have HM := Lib.hid (fun W => r5May W S)
  obtain ⟨M, hM⟩ : ∃ M, mayI S = M := ⟨_, rfl⟩
  rw [hM] at HM hEc
  clear hM
  have hx := hb
  have p0 := cell_obj hx 1 (.int .i64 f0) rfl
  have p1 := cell_obj hx 2 (.int .i64 f1) rfl
  have p2 := cell_obj hx 3 (.int .i64 f2) rfl
  have p3 := cell_obj hx 4 (.int .i64 f3) rfl
  have p4 := cell_obj hx 5 (.int .i64 f4) rfl
  have p5 := cell_obj hx 6 (.int .i64 f5) rfl
  have p6 := cell_obj hx 7 (.int .i64 f6) rfl
  have p7 := cell_obj hx 8 (.int .i64 f7) rfl
  have p8 := cell_obj hx 9 (.int .i64 f8) rfl
  have p9 := cell_obj hx 10 (.int .i64 f9) rfl
  have p10 := cell_obj hx 11 (.int .i64 f10) rfl
  clear hx hb
  cases E with
  | false =>
    have hg : Hid (G = false) := Lib.hid (by rw [hEc.out]; rfl)
    go_enter Try.func52, Try.ntmps52
    go_wp2_with (go_at_call 54; refine (HE.out _).mono ?_; rintro e w1 ⟨rfl, hF⟩; have HF := Lib.hid (HF0.out.trans hF); clear hF)
    go_ret
    exact ⟨by rw [hg.out]; rfl, HF.out⟩
  | true =>
    have HSm3 := Lib.hid (HSm2.out rfl)
    have hg : Hid (G = M) := Lib.hid (by rw [hEc.out]; rfl)
    go_enter Try.func52, Try.ntmps52
    go_wp2_with (first
      | (go_at_call 57; refine (HM.out _).mono ?_; rintro e w3 ⟨rfl, rfl⟩)
      | (go_at_call 55; refine (HSm3.out _).mono ?_; rintro e w2 ⟨rfl, hF⟩; have HF := Lib.hid (HF.out.trans hF); clear hF)
      | (go_at_call 54; refine (HE.out _).mono ?_; rintro e w1 ⟨rfl, hF⟩; have HF := Lib.hid (HF0.out.trans hF); have hx := hF.at_ HB.out (fun e => e); have p0 := cell_obj hx 1 (.int .i64 f0) rfl; have p1 := cell_obj hx 2 (.int .i64 f1) rfl; have p2 := cell_obj hx 3 (.int .i64 f2) rfl; have p3 := cell_obj hx 4 (.int .i64 f3) rfl; have p4 := cell_obj hx 5 (.int .i64 f4) rfl; have p5 := cell_obj hx 6 (.int .i64 f5) rfl; have p6 := cell_obj hx 7 (.int .i64 f6) rfl; have p7 := cell_obj hx 8 (.int .i64 f7) rfl; have p8 := cell_obj hx 9 (.int .i64 f8) rfl; have p9 := cell_obj hx 10 (.int .i64 f9) rfl; have p10 := cell_obj hx 11 (.int .i64 f10) rfl; clear hF hx))
    go_ret
    exact ⟨by rw [hg.out]; rfl, HF.out⟩
end Go.Proofs.Ytclgmnobockfnaa
