/- bins: a floor as a thing of its own; slices.Clone on bins. -/
import Derived.Test.YtlniekobijcanaaGreatBinsShortM3
import Derived.Test.YtlniekobijcanaaGreatBinsShortM8
import Derived.Test.YtlniekobijcanaaGreatBinsShortM1
namespace Go.Proofs.YtlniekobijcanaaGreat
open Go.RowKit Go.Maps
/-- What a bin is, wherever its goods lie. -/
structure BE where
  nu : Int
  zo : Int
  ro : Int
  its : Its
def BV.e (b : BV) : BE := ⟨b.nu, b.zo, b.ro, b.its⟩
def leftE (b : BE) : Int := wrap64 (b.ro - totF b.its)
def kindE (b : BE) (s : Str) : Int := if 0 < ofF b.its s then 0 else if b.its.length = 0 then 1 else if b.its.length < 16 then 2 else 3
theorem leftE_e (b : BV) : leftF b = leftE b.e := rfl
theorem kindE_e (b : BV) (s : Str) : kindF b s = kindE b.e s := rfl
def BE.put (b : BE) (s : Str) (n : Int) : BE := ⟨b.nu, b.zo, b.ro, setF b.its s n⟩
theorem put_e (b : BV) (v : Value) (s : Str) (n : Int) : (b.put v s n).e = b.e.put s n := rfl
theorem BOk.keep {S : Nat → Prop} {w w' : World} {b : BV} (h : BOk w b) (hf : Fr S w w') (hS : b.its ≠ [] → ∀ c, b.l.ownBlock = some c → ¬ S c) : BOk w' b := ⟨h.nu, h.zo, h.ro, h.l.keep hf hS⟩
/-- Floor g is these bins, and owns the blocks of TS. -/
structure FA (w : World) (g : Nat) (TS : Nat → Prop) (L : List BV) : Prop where
  ex : ∃ r cap cur, w.heap[g]? = some (.cells #[.slice (some ⟨r, 0, none⟩) L.length cap] 79) ∧ w.heap[r]? = some (.cells cur 76) ∧ L.length ≤ cap ∧ cap ≤ maxLen ∧ cur.size = cap * 4 ∧ cur.toList.take (L.length * 4) = flat BV.cs L ∧ TS r ∧ r ≠ g ∧
    ∀ b ∈ L, BOk w b ∧ (b.its ≠ [] → ∀ c, b.l.ownBlock = some c → TS c ∧ c ≠ g ∧ c ≠ r)
  own : TS g
  lt : ∀ b, TS b → b < w.heap.size
theorem FA.fr {S TS : Nat → Prop} {w w' : World} {g : Nat} {L : List BV} (h : FA w g TS L) (hf : Fr S w w') (hS : ∀ b, TS b → ¬ S b) : FA w' g TS L := by
  obtain ⟨⟨r, cap, cur, h1, h2, h3, h4, h5, h6, h7, h8, h9⟩, ho, hl⟩ := h
  exact ⟨⟨r, cap, cur, hf.at_ h1 (hS _ ho), hf.at_ h2 (hS _ h7), h3, h4, h5, h6, h7, h8, fun b hb => ⟨(h9 b hb).1.keep hf (fun hne c hc => hS _ ((h9 b hb).2 hne c hc).1), (h9 b hb).2⟩⟩, ho, fun b hb => Nat.lt_of_lt_of_le (hl b hb) hf.size⟩
theorem FA.row {TS : Nat → Prop} {w : World} {g : Nat} {L : List BV} (h : FA w g TS L) : ∃ r cap, w.heap[g]? = some (.cells #[.slice (some ⟨r, 0, none⟩) L.length cap] 79) ∧ w.ownsRow 0 76 4 (.slice (some ⟨r, 0, none⟩) L.length cap) L.length (flat BV.cs L) ∧ Bl w (.slice (some ⟨r, 0, none⟩) L.length cap) L := by
  obtain ⟨⟨r, cap, cur, h1, h2, h3, h4, h5, h6, h7, h8, h9⟩, ho, hl⟩ := h
  have hr : w.ownsRow 0 76 4 (.slice (some ⟨r, 0, none⟩) L.length cap) L.length (flat BV.cs L) := ⟨flat_len1 bvSize L, .inr ⟨r, cap, cur, rfl, Nat.zero_le _, h2, h3, h4, h5, h6⟩⟩
  exact ⟨r, cap, h1, hr, Sq.own bvSize hr (fun b hb => (h9 b hb).1)⟩
theorem FA.fl {TS : Nat → Prop} {w : World} {g : Nat} {L : List BV} (h : FA w g TS L) : Fl w g L := by
  obtain ⟨r, cap, h1, _, h3⟩ := h.row
  exact ⟨_, cap, h1, h3⟩
theorem infoBin : (Tryz.prog.info? 76).map (fun i => (i.zero, i.size, i.bytes)) = some (some (.agg #[.int .i64 0, .int .i64 0, .int .i64 0, .slice none 0 0]), 4, 48) := by kernel_rfl
theorem bv_one {L : List BV} (h : ∀ b ∈ L, ∃ a n c, b.l = .slice a n c) : ∀ u ∈ flat BV.cs L, u.oneCell' = true := by
  intro u hu
  simp only [flat, List.mem_flatMap] at hu
  obtain ⟨b, hb, hr⟩ := hu
  obtain ⟨a, n, c, e⟩ := h b hb
  simp only [BV.cs, e, List.mem_cons, List.not_mem_nil, or_false] at hr
  rcases hr with rfl | rfl | rfl | rfl <;> rfl
set_option maxRecDepth 100000 in
set_option maxHeartbeats 4000000 in
theorem bnClone (w : World) (v : Value) (L : List BV) (h : Bl w v L) (hl : L.length ≤ 1000) (hL : 0 < L.length) : Calls Tryz.prog 97 #[v] w fun e w' =>
    ∃ v', e = .returned v' ∧ w'.ownsRow w.heap.size 76 4 v' L.length (flat BV.cs L) ∧ Fr (fun _ => False) w w' := by
  obtain ⟨i0, hi', hz0, hz1, hz2⟩ := info_parts infoBin
  have hone : ∀ u ∈ flat BV.cs L, u.oneCell' = true := bv_one (fun b hb => by obtain ⟨a, c, e⟩ := (h.okm hb).l.sl; exact ⟨a, _, c, e⟩)
  obtain ⟨hb1, a, c, rfl, hbx⟩ := id h
  obtain ⟨n, hn⟩ : ∃ n, L.length = n := ⟨_, rfl⟩
  have HN := Lib.hid hn
  rw [hn] at hl hb1 hL ⊢
  have hq := fun (w : World) (a : Option Addr) (n c n' c' : Nat) => Lib.run_eql_slice_nil (P := Tryz.prog) w 77 _ a n c n' c' Tryz.underlying77
  obtain ⟨x0, hx0⟩ : ∃ x, L[0]? = some x := ⟨L[0]'(by omega), List.getElem?_eq_getElem _⟩
  obtain ⟨-, ad, rfl, -⟩ := hbx 0 x0 hx0
  have hown : (w.alloc (.cells #[] 76)).ownsRow w.heap.size 76 4 (.slice (some ⟨w.heap.size, 0, none⟩) 0 0) 0 [] := World.ownsRow_made w #[] 0 (Nat.le_refl _) (Nat.zero_le _) rfl
  have hnews : ∀ (i : Nat) (u : Value), (flat BV.cs L)[i]? = some u → (w.alloc (.cells #[] 76)).cell? (ad.add i) = some u := fun i u hu => by
    have hi := (List.getElem?_eq_some_iff.1 hu).1
    rw [flat_len1 bvSize] at hi
    obtain ⟨x, hx⟩ : ∃ x, L[i / 4]? = some x := ⟨L[i / 4]'(by omega), List.getElem?_eq_getElem _⟩
    obtain ⟨-, ad', e, hc⟩ := hbx (i / 4) x hx
    cases e
    have hxs : (BV.cs x)[i % 4]? = some ((BV.cs x)[i % 4]'(by rw [bvSize]; omega)) := Array.getElem?_eq_getElem _
    have h2 := flat_at bvSize hx (i % 4) _ hxs
    have h3 := hc (i % 4) _ hxs
    rw [show i / 4 * 4 + i % 4 = i by omega] at h2 h3
    rw [h2] at hu
    cases hu
    exact ((Fr.refl (fun _ => False) w).alloc _).cell h3 (fun h => h)
  have hul : (flat BV.cs L).length = n * 4 := by rw [flat_len1 bvSize, hn]
  have HNEWS := Lib.hid hnews; have HALL := Lib.hid hone; have HUL := Lib.hid hul; have HO := Lib.hid hown
  clear hnews hone hul hown hbx h hn hx0
  go_enter Tryz.func97, Tryz.ntmps97
  go_wp2_with (at_builtin; refine wpList_append_own_at _ rfl _ _ 77 rfl w.heap.size 76 i0 _ 4 48 Tryz.underlying77 hi' hz0 hz1 hz2 rfl (by decide) (.slice (some ⟨w.heap.size, 0, none⟩) 0 0) 0 [] rfl HO.out ad n _ (flat BV.cs L) rfl HUL.out HNEWS.out HALL.out (by unfold maxLen; omega) (by omega) (by simp) ?_; intro v' w5 hown' hgrow _ hat)
  go_ret
  refine ⟨_, rfl, by simpa using hown', ((Fr.refl (fun _ => False) w).alloc _).trans' (Fr.grown (S := fun b => b = w.heap.size) hgrow (fun r hr _ => by cases hr; rfl)) (fun b hb e => by omega)⟩
end Go.Proofs.YtlniekobijcanaaGreat
