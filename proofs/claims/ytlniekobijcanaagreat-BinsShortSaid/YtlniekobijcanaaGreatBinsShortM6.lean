/- bins: order's comparison. -/
import Derived.Test.YtlniekobijcanaaGreatBinsShortM3
import Derived.Test.YtlniekobijcanaaGreatBinsShortM5
import Derived.BigQuiet
namespace Go.Proofs.YtlniekobijcanaaGreat
open Go.RowKit Go.Maps
set_option maxRecDepth 100000 in
set_option maxHeartbeats 8000000 in
theorem bOrd1 (w : World) (g gc b5 b3 i j : Nat) (cbc : Array Value) (L : List BV) (A B : BV) (C : Int) (eg : ∀ args w, (callFunc gc args).run Tryz.prog w = .ok (.enter gc args) w) (h : Fl w g L) (hi : L[i]? = some A) (hj : L[j]? = some B)
    (h5 : w.cell? ⟨b5, 0, none⟩ = some (.func (.func gc) #[] cbc)) (h3 : w.cell? ⟨b3, 0, none⟩ = some (.pointer (some ⟨g, 0, none⟩)))
    (hC : ∀ W, Fr (fun _ => False) w W → Calls Tryz.prog gc (#[.agg A.cs, .agg B.cs] ++ cbc) W fun e w' => e = .returned (.int .i64 C) ∧ Fr (fun _ => False) W w') :
    Calls Tryz.prog 94 #[.int .i64 i, .int .i64 j, .pointer (some ⟨b5, 0, none⟩), .pointer (some ⟨b3, 0, none⟩)] w fun e w' => e = .returned (.int .i64 C) ∧ Fr (fun _ => False) w w' := by
  obtain ⟨a, c, q1, q2⟩ := h
  have hiN := (List.getElem?_eq_some_iff.1 hi).1
  have hjN := (List.getElem?_eq_some_iff.1 hj).1
  have hNI := q2.len
  obtain ⟨N, hN⟩ : ∃ N, L.length = N := ⟨_, rfl⟩
  rw [hN] at q1 q2 hNI hiN hjN
  have hiI : (i : Int) < N := by omega
  have hjI : (j : Int) < N := by omega
  obtain ⟨ad, rfl, okA, z0, zs⟩ := q2.at_ hi
  obtain ⟨ad', e', okB, y0, ys⟩ := q2.at_ hj
  cases e'
  obtain ⟨la, lc, hl⟩ := okA.l.sl
  obtain ⟨lb, ld, hm⟩ := okB.l.sl
  have HC : Hid (∀ W, Fr (fun _ => False) w W → Calls Tryz.prog gc (#[.agg #[.int .i64 A.nu, .int .i64 A.zo, .int .i64 A.ro, .slice la A.its.length lc], .agg #[.int .i64 B.nu, .int .i64 B.zo, .int .i64 B.ro, .slice lb B.its.length ld]] ++ cbc) W fun e w' => e = .returned (.int .i64 C) ∧ Fr (fun _ => False) W w') := Lib.hid (fun W hf => by
    have := hC W hf
    unfold BV.cs at this
    rw [hl, hm] at this
    exact this)
  have u0 := FrW.cell (cell_obj q1 0 (.slice (some ad) N c) rfl)
  have u1 := FrW.cell (z0 (.int .i64 A.nu) rfl)
  have u2 := FrW.cell (zs 0 (.int .i64 A.zo) rfl)
  have u3 := FrW.cell (zs 1 (.int .i64 A.ro) rfl)
  have u4 := FrW.cell (zs 2 (.slice la A.its.length lc) (by rw [← hl]; rfl))
  have u5 := FrW.cell (y0 (.int .i64 B.nu) rfl)
  have u6 := FrW.cell (ys 0 (.int .i64 B.zo) rfl)
  have u7 := FrW.cell (ys 1 (.int .i64 B.ro) rfl)
  have u8 := FrW.cell (ys 2 (.slice lb B.its.length ld) (by rw [← hm]; rfl))
  have u9 := FrW.cell h5
  have u10 := FrW.cell h3
  clear hC h5 h3 q1 q2 hi hj z0 zs y0 ys okA okB hl hm hN
  go_enter Tryz.func94, Tryz.ntmps94
  go_wp2_with fail
  refine wp_region_fr (by kernel_rfl) (by kernel_rfl) ?_
  repeat (go_big_quiet_step ((go_at_fn gc; rename_i X; refine (HC.out X.val X.fr).mono ?_; rintro e w2 ⟨rfl, hF⟩; exact ⟨rfl, ⟨w2, X.fr.trans hF⟩, rfl⟩)))
  refine wpQuiet_nil ?_
  rintro _ ⟨⟨V, hV⟩, rfl⟩
  go_wp2_with fail
  go_ret
  exact ⟨rfl, hV⟩
end Go.Proofs.YtlniekobijcanaaGreat
