/- bins: Route. -/
import Derived.Test.YtlniekobijcanaaGreatBinsRoutesM17
import Derived.Test.YtlniekobijcanaaGreatBinsRoutesM18
import Derived.Test.YtlniekobijcanaaGreatBinsRoutesM4
import Derived.Test.YtlniekobijcanaaGreatBinsRoutesM23
import Derived.Deep.QuietTactic
namespace Go.Proofs.YtlniekobijcanaaGreat
open Go.RowKit Go.Maps
set_option maxRecDepth 100000 in
set_option maxHeartbeats 4000000 in
theorem bRoute1 (w : World) (p : PV) (fv : Value) (b0 : Nat) (R : Int) (hb : w.cell? ⟨b0, 0, none⟩ = some fv) (hfd : ∀ W, Fr (fun _ => False) w W → Calls Tryz.prog 39 #[fv, .int .i64 p.b] W fun e w' => e = .returned (.int .i64 R) ∧ Fr (fun _ => False) W w') :
    Calls Tryz.prog 38 #[.agg (pvC p), .pointer (some ⟨b0, 0, none⟩)] w fun e w' => e = .returned (.bool (R == -1)) ∧ Fr (fun _ => False) w w' := by
  obtain ⟨b, g, n⟩ := p
  have hb2 := ((Fr.refl (fun _ => False) w).alloc (.cells #[.int .i64 b, vS g, .int .i64 n] 55)).cell hb (fun h => h)
  have HFD := Lib.hid (hfd _ ((Fr.refl (fun _ => False) w).alloc (.cells #[.int .i64 b, vS g, .int .i64 n] 55)))
  dsimp only [pvC] at *
  clear hb hfd
  go_enter Tryz.func38, Tryz.ntmps38
  go_wp2_with (go_at_call 39; refine HFD.out.mono ?_; rintro e w2 ⟨rfl, hf2⟩; have HF2 := Lib.hid (((Fr.refl (fun _ => False) w).alloc _).trans hf2); clear hf2)
  go_ret
  exact ⟨rfl, HF2.out⟩
theorem pl_of_row {W : World} {bk cap : Nat} {l : List PV} {rest : List Value} (hl : l.length ≤ maxLen) (h : W.heap[bk]? = some (.cells (l.flatMap PV.cs ++ rest).toArray 55)) (hok : ∀ p ∈ l, okPv W p) : Pl W (.slice (some ⟨bk, 0, none⟩) l.length cap) l := by
  refine ⟨hl, some ⟨bk, 0, none⟩, cap, rfl, fun i x hx => ⟨hok x (List.mem_of_getElem? hx), _, rfl, fun j u hu => ?_⟩⟩
  have hj := (Array.getElem?_eq_some_iff.1 hu).1
  rw [pvSize] at hj
  have hil := (List.getElem?_eq_some_iff.1 hx).1
  have e0 : (⟨bk, 0, none⟩ : Addr).add (i * 3 + j) = ⟨bk, i * 3 + j, none⟩ := by unfold Addr.add; simp <;> intros <;> omega
  have hfl : l.flatMap PV.cs = flat pvC l := rfl
  have hle : (i + 1) * 3 ≤ l.length * 3 := Nat.mul_le_mul_right 3 hil
  rw [e0]
  refine cell_obj h _ _ ?_
  rw [List.getElem?_toArray, hfl, List.getElem?_append_left (by rw [flat_len1 pvSize]; omega)]
  exact flat_at pvSize hx j u hu
theorem bRoute2 (w W0 w1 : World) (fv v1 : Value) (n0 : Nat) (l : List PV) (fd : Int → Int) (hn0 : w.heap.size = n0) (hs0 : W0.heap.size = n0 + 1) (hl : l.length ≤ 4398046510976) (hf0 : Fr (fun _ => False) w W0) (hx0 : W0.heap[n0]? = some (.cells #[fv] 25))
    (hok : ∀ p ∈ l, okI p.b ∧ okS p.g ∧ okI p.n) (hfd : ∀ W n, Fr (fun _ => False) w W → Calls Tryz.prog 39 #[fv, .int .i64 n] W fun e w' => e = .returned (.int .i64 (fd n)) ∧ Fr (fun _ => False) W w')
    (ho : w1.ownsRow W0.heap.size 55 3 v1 l.length (flat pvC l)) (hf1 : Fr (fun _ => False) W0 w1) :
    Calls Tryz.prog 36 #[v1, .func (.func 38) #[] #[.pointer (some ⟨n0, 0, none⟩)]] w1 fun e w' => ∃ v', e = .returned v' ∧ w'.ownsRow (n0 + 1) 55 3 v' (l.filter fun p => !(fd p.b == -1)).length (flat pvC (l.filter fun p => !(fd p.b == -1))) ∧ (∀ c, v'.ownBlock = some c → n0 < c) ∧ w'.cell? ⟨n0, 0, none⟩ = some fv ∧ Fr (fun _ => False) w w' := by
  rw [hs0] at ho
  have hlo : ∀ c, v1.ownBlock = some c → n0 < c := fun c hc => by
    rcases ho.2 with ⟨rfl, -⟩ | ⟨g, cap, cur, rfl, hb, -⟩
    · cases hc
    · cases hc; show n0 < g; omega
  refine (dfPlace w1 (n0 + 1) v1 l (fun p => fd p.b == -1) n0 ho (by omega) hok (fun W i x hx hW => ?_)).mono ?_
  · have hW2 : Fr (fun c => n0 < c) W0 W := (hf1.mono (fun _ _ e => e.elim)).trans' hW (fun b _ e => hlo b e)
    refine bRoute1 W x fv n0 (fd x.b) ?_ (fun W' hW' => hfd W' x.b ((hf0.trans' hW2 (fun b hb e => by have e : n0 < b := e; omega)).trans hW'))
    exact cell_obj ((hW2.at_ hx0 (by omega))) 0 fv rfl
  · rintro e w' ⟨v', rfl, h1, h2, h3⟩
    exact ⟨v', rfl, h1, fun c hc => hlo c (h2 c hc), cell_obj ((((hf1.mono (S' := fun c => n0 < c) (fun _ _ e => e.elim)).trans' h3 (fun b _ e => hlo b e))).at_ hx0 (by omega)) 0 fv rfl, (hf0.trans hf1).trans' h3 (fun b hb e => by have := hlo b e; omega)⟩
set_option maxRecDepth 100000 in
set_option maxHeartbeats 8000000 in
theorem bRoute (w : World) (fp : Option Addr) (v : Value) (l : List PV) (fd : Int → Int) (cf : PV → PV → Int) (h : Pl w v l) (hl : l.length ≤ 4398046510976) (hl2 : (l.filter fun p => !(fd p.b == -1)).length ≤ 1000000000000)
    (hfd : ∀ W n, Fr (fun _ => False) w W → Calls Tryz.prog 39 #[.pointer fp, .int .i64 n] W fun e w' => e = .returned (.int .i64 (fd n)) ∧ Fr (fun _ => False) W w')
    (hcf : ∀ W x y, Fr (fun _ => False) w W → (-1 ≤ cf x y ∧ cf x y ≤ 1) → Calls Tryz.prog 41 #[.pointer fp, .agg x.cs.toArray, .agg y.cs.toArray] W fun e w' => e = .returned (.int .i64 (cf x y)) ∧ Fr (fun _ => False) W w')
    (hS : SwoB (fun x y => decide (cf x y < 0))) (hD : ∀ x ∈ l.filter (fun p => !(fd p.b == -1)), ∀ y ∈ l.filter (fun p => !(fd p.b == -1)), -1 ≤ cf x y ∧ cf x y ≤ 1) :
    Calls Tryz.prog 13 #[.pointer fp, v] w fun e w' => ∃ v', e = .returned v' ∧ Pl w' v' (stab (fun x y => decide (cf x y < 0)) (l.filter fun p => !(fd p.b == -1))) ∧ (∀ c, v'.ownBlock = some c → w.heap.size ≤ c) ∧ Fr (fun _ => False) w w' := by
  obtain ⟨va, vl, vc, hve⟩ : ∃ a n c, v = .slice a n c := by obtain ⟨a, c, e⟩ := h.sl; exact ⟨a, _, c, e⟩
  subst hve
  obtain ⟨n0, hn0⟩ : ∃ n0, w.heap.size = n0 := ⟨_, rfl⟩
  obtain ⟨W0, hW0⟩ : ∃ W0, w.alloc (.cells #[.pointer fp] 25) = W0 := ⟨_, rfl⟩
  have hf0 : Fr (fun _ => False) w W0 := by rw [← hW0]; exact (Fr.refl _ w).alloc _
  have hx0 : W0.heap[n0]? = some (.cells #[.pointer fp] 25) := by rw [← hW0]; exact heap_at hn0.symm _
  have hcl := plClone W0 _ l (h.fr0 okPvKeeps hf0) hl
  have HOKP : Hid (∀ p ∈ l, okI p.b ∧ okS p.g ∧ okI p.n) := Lib.hid (fun p hp => h.okm hp)
  obtain ⟨K, hK⟩ : ∃ K, (l.filter fun p => !(fd p.b == -1)) = K := ⟨_, rfl⟩
  have HK := Lib.hid hK
  rw [hK] at hD hl2 ⊢
  have HCL := Lib.hid hcl; have HFD := Lib.hid hfd; have HCF := Lib.hid hcf; have HS := Lib.hid hS; have HD := Lib.hid hD; have HF0 := Lib.hid hf0; have HX0 := Lib.hid hx0; have HN0 := Lib.hid hn0; have HL := Lib.hid hl; have HL2 := Lib.hid hl2
  have HS0 : Hid (W0.heap.size = n0 + 1) := Lib.hid (by rw [← hW0]; simp; omega)
  have c0 := cell_obj hx0 0 (.pointer fp) rfl
  clear h hl hl2 hfd hcf hS hD hf0 hx0 hcl hK
  go_enter Tryz.func13, Tryz.ntmps13
  go_wp2_with (first
    | (go_at_call 37; refine HCL.out.mono ?_; rintro e w1 ⟨v1, rfl, ho1, hf1⟩; have HO1 := Lib.hid ho1; have HF1 := Lib.hid hf1; clear ho1 hf1)
    | (go_at_call 36; refine (bRoute2 w W0 w1 (.pointer fp) v1 n0 l fd HN0.out HS0.out HL.out HF0.out HX0.out HOKP.out HFD.out HO1.out HF1.out).mono ?_; rintro e w2 ⟨v2, rfl, ho2, hlo2, hc2, hf2⟩; rw [HK.out] at ho2; have HO2 := Lib.hid ho2; have HLO2 := Lib.hid hlo2; have HF2 := Lib.hid hf2; clear ho2 hlo2 hf2))
  have HOKK : Hid (∀ p ∈ K, okI p.b ∧ okS p.g ∧ okI p.n) := Lib.hid (fun p hp => by
    rw [← HK.out] at hp
    exact HOKP.out p (List.mem_filter.1 hp).1)
  rcases HO2.out.2 with ⟨he, h0⟩ | ⟨g, cap, cur, he, hbase, hb, hn, hm, hs, ht⟩
  · subst he
    have hK0 : K = [] := List.eq_nil_of_length_eq_zero h0
    go_wp2_with (go_at_call 40; refine (sortNilP _ _).mono ?_; rintro e w3 ⟨rfl, hf3⟩; have HF3 := Lib.hid hf3; clear hf3)
    go_ret
    rw [hK0]
    exact ⟨.slice none 0 0, rfl, ⟨by simp [stab, maxLen], none, 0, rfl, fun i x hx => by simp [stab] at hx⟩, (by intro c hc; cases hc), HF2.out.trans HF3.out⟩
  · subst he
    have hrow : w2.heap[g]? = some (.cells (K.flatMap PV.cs ++ cur.toList.drop (K.length * 3)).toArray 55) := by
      have e1 : K.flatMap PV.cs = cur.toList.take (K.length * 3) := ht.symm
      rw [e1, List.take_append_drop, Array.toArray_toList]
      exact hb
    have hg : n0 < g := by omega
    have HROW := Lib.hid hrow
    have HG := Lib.hid hg
    clear hbase hb hn hm hs ht hrow hg
    have HSO := Lib.hid (sortStableP w2 g K.length cap 41 (.pointer fp) cf K (fun _ _ => rfl) rfl HL2.out HS.out (rwP_zip HROW.out) HD.out (fun W x y hW hxy => HCF.out W x y (HF2.out.trans' hW (fun b hb e => by have e : b = g := e; have := HG.out; have := HN0.out; omega)) hxy))
    go_wp2_with (go_at_call 40; refine HSO.out.mono ?_; rintro e w3 ⟨rfl, hr3, hf3⟩; have HR3 := Lib.hid hr3; have HF3 := Lib.hid hf3; clear hr3 hf3)
    go_ret
    have hlen : (stab (fun x y => decide (cf x y < 0)) K).length = K.length := (stab_perm _ K).length_eq
    obtain ⟨rest, hr3⟩ := HR3.out
    have hpl := pl_of_row (cap := cap) (by rw [hlen]; have := HL2.out; unfold maxLen; omega) hr3 (fun p hp => HOKK.out p ((stab_perm _ K).mem_iff.1 hp))
    rw [hlen] at hpl
    exact ⟨_, rfl, hpl, fun c hc => by cases hc; show w.heap.size ≤ g; have := HG.out; have := HN0.out; omega, HF2.out.trans' HF3.out (fun b hb e => by have e : b = g := e; have := HG.out; have := HN0.out; omega)⟩
end Go.Proofs.YtlniekobijcanaaGreat
