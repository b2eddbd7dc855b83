/- cells: Maker.Text. -/
import Derived.Test.YtbeikkkmobbnkaaGreatModMoreM12
import Derived.Test.YtbeikkkmobbnkaaGreatModMoreM1
import Derived.Lib.ConvBytes
namespace Go.Proofs.YtbeikkkmobbnkaaGreat
open Go.RowKit Go.Maps
/-- A text's bytes. -/
def sB (s : Str) : List Int := s.map fun c => (c.toNat : Int)
theorem sB_len (s : Str) : (sB s).length = s.length := by simp [sB]
theorem sB_byt (s : Str) : Byt (sB s) := by
  intro x hx
  obtain ⟨c, -, rfl⟩ := List.mem_map.1 hx
  have := c.toNat_lt
  omega
/-- A text's cell. -/
def textB (s : Str) : List Int := numB (s.length : Int) ++ sB s
theorem bytesWorld_fr (w : World) (e : TypeId) (s : ByteArray) : Fr (fun _ => False) w (Lib.bytesWorld w e s) :=
  ⟨rfl, rfl, rfl, by rw [Lib.bytesWorld_size]; omega, fun b hb _ => Lib.bytesWorld_at_old w e s b hb⟩
theorem bytesWorld_bs (w : World) (s : Str) (c : Nat) (hs : s.length ≤ 65536) : Bs (Lib.bytesWorld w 5 ⟨s.toArray⟩) (.slice (some ⟨w.heap.size, 0, none⟩) s.length c) (sB s) := by
  refine ⟨by rw [sB_len]; omega, some ⟨w.heap.size, 0, none⟩, c, by rw [sB_len], fun i x hx => ?_⟩
  have hb := sB_byt s x (List.mem_of_getElem? hx)
  refine ⟨hb.1, hb.2, _, rfl, ?_⟩
  have hi : i < s.length := by have := (List.getElem?_eq_some_iff.1 hx).1; rwa [sB_len] at this
  have := Lib.bytesWorld_cell w 5 ⟨s.toArray⟩ i (by simpa [ByteArray.size] using hi)
  rw [show (⟨w.heap.size, 0, none⟩ : Addr).add i = ⟨w.heap.size, i, none⟩ by simp [Addr.add]; omega, this]
  unfold sB at hx
  rw [List.getElem?_map, List.getElem?_eq_getElem hi] at hx
  injection hx with hx
  subst hx
  simp [List.getD, hi]
set_option maxRecDepth 100000 in
set_option maxHeartbeats 2000000 in
theorem cMText (w : World) (g : Nat) (TS : Nat → Prop) (bs : List Int) (long : Bool) (s : Str) (h : MK w g TS bs long) (hs : s.length ≤ 65536) :
    Calls Tryz.prog 87 #[.pointer (some ⟨g, 0, none⟩), vS s] w fun e w' => e = .returned (.pointer (some ⟨g, 0, none⟩)) ∧ ∃ TS', MK w' g TS' (putB bs long (textB s)) (putL bs long (textB s)) ∧ Stp TS w w' TS' := by
  have hn : okI (s.length : Int) := by unfold okI; omega
  have hl := numB_len hn
  have hN := Lib.hid (cNum w (s.length : Int) hn)
  have hcv := fun (W : World) => Lib.run_convert_string_bytes (P := Tryz.prog) W 9 72 5 ⟨s.toArray⟩ Tryz.underlying9 Tryz.underlying72 Tryz.underlying5
  have HH := Lib.hid h; have HL := Lib.hid hl
  have hsz : (ByteArray.mk s.toArray).size = s.length := by simp [ByteArray.size]
  simp only [hsz] at hcv
  clear h hl hsz
  go_enter Tryz.func87, Tryz.ntmps87
  go_wp2_with fail
  refine hN.out.mono ?_
  rintro e w1 ⟨v, rfl, hb, hB⟩
  obtain ⟨ad, c, rfl⟩ := hb.1.at0 (by have := HL.out; omega)
  have HBN := Lib.hid hb; have HB := Lib.hid hB
  clear hb hB
  go_wp2_with fail
  obtain ⟨cc, hcc⟩ : ∃ cc, grownCap w1 s.length 0 5 = cc := ⟨_, rfl⟩
  rw [hcc]
  have hFb := bytesWorld_fr w1 5 ⟨s.toArray⟩
  have hBs := bytesWorld_bs w1 s cc hs
  obtain ⟨V, hV⟩ : ∃ V, Lib.bytesWorld w1 5 ⟨s.toArray⟩ = V := ⟨_, rfl⟩
  rw [hV] at hFb hBs ⊢
  have hF2 : Fr (fun _ => False) w1 (V.alloc (.cells #[.slice (some ad) (numB (s.length : Int)).length c, .slice (some ⟨w1.heap.size, 0, none⟩) s.length cc] 72)) := hFb.alloc _
  have hF : Fr (fun _ => False) w _ := (Fr.below HB.out).trans hF2
  have hM := HH.out.fr hF (fun _ _ h => h)
  have hcat : catL [(Value.slice (some ad) (numB (s.length : Int)).length c, numB (s.length : Int)), (Value.slice (some ⟨w1.heap.size, 0, none⟩) s.length cc, sB s)] = textB s := by simp [catL, textB]
  have hblk := heap_new V (.cells #[.slice (some ad) (numB (s.length : Int)).length c, .slice (some ⟨w1.heap.size, 0, none⟩) s.length cc] 72)
  have hP : Parts (V.alloc (.cells #[.slice (some ad) (numB (s.length : Int)).length c, .slice (some ⟨w1.heap.size, 0, none⟩) s.length cc] 72)) (.slice (some ⟨V.heap.size, 0, none⟩) 2 2) [(Value.slice (some ad) (numB (s.length : Int)).length c, numB (s.length : Int)), (Value.slice (some ⟨w1.heap.size, 0, none⟩) s.length cc, sB s)] := by
    refine ⟨_, _, rfl, fun i p hp => ?_⟩
    match i, hp with
    | 0, hp =>
      cases hp
      exact ⟨cell_obj hblk 0 _ rfl, HBN.out.1.fr hF2 (fun _ h => h.elim), ad, _, c, rfl⟩
    | 1, hp =>
      cases hp
      exact ⟨cell_obj hblk 1 _ rfl, hBs.fr ((Fr.refl (fun _ => False) _).alloc _) (fun _ h => h.elim), ⟨w1.heap.size, 0, none⟩, _, cc, rfl⟩
  have HM := Lib.hid hM; have HP := Lib.hid hP; have HC := Lib.hid hcat; have HF := Lib.hid hF
  have hlt : Hid (0 < (textB s).length ∧ ((textB s).length : Int) ≤ 1099511627776) := Lib.hid (by have := HL.out; unfold textB; rw [List.length_append, sB_len]; omega)
  clear hFb hBs hV hF2 hF hM hcat hblk hP hcc
  refine (cPut _ g TS bs long _ _ HM.out HP.out (by simp) (by rw [HC.out]; exact hlt.out.2) (by rw [HC.out]; exact hlt.out.1)).mono ?_
  rw [HC.out]
  rintro e w2 ⟨rfl, TS', hM2, hs2⟩
  go_wp2_with fail
  go_ret
  exact ⟨rfl, TS', hM2, (Stp.refl HF.out).trans hs2⟩
end Go.Proofs.YtbeikkkmobbnkaaGreat
