/- Texts of this claim, joined: cells.Maker: Num, Flag, Done; slices.Clone; Slices of bytes as strings; their first bytes; cells.First: a number read; cells.Taker: Take, may, fault, Num, Flag, Done; cells.Taker: Flag, Done; what a cell reads as, plainly; What makers put, as states: plainly; cells: what First reads is what Num wrote: plainly; What makers put and takers take, as states: plainly; cells: Maker.Text; cells: Taker.Text; items.Take; slices.SortStableFunc on []api.Place: a row of the caller's, its elements named; swapRange, rotate; slices.DeleteFunc at api.Place, under Route's closure (printed by wip/tools/dfx.py); bins: spread: plain, and what its loop keeps; Plain: sums of goods; Plain: sums of goods; what a bin can take; A region that draws its order: all its operations but the last only read (its calls may draw), and the last one (a store) waits for all: one walk in the text's order serves. -/
import Derived.Test.YtefjdcghdcbojaaGreatBinsBackM3
import Derived.Handy
import Derived.Lib.SliceRun
import Derived.Laws.BytesArg
import Derived.Deep.Slices
import Derived.Test.YtefjdcghdcbojaaGreatBinsBackM1
import Derived.Lib.ConvBytes
import Derived.Test.YtefjdcghdcbojaaGreatBinsBackM2
import Derived.BigRegion
import Derived.RegionTactic
import Derived.OwnWalk
import Derived.Deep.QuietTactic
import Derived.BigQuiet
import Derived.StillTail
namespace Go.Proofs.YtefjdcghdcbojaaGreat
open Go.RowKit Go.Maps
theorem Bs.at0 {w : World} {v : Value} {bs : List Int} (h : Bs w v bs) (h0 : 0 < bs.length) : ∃ ad c, v = .slice (some ad) bs.length c := by
  obtain ⟨_, a, c, e, h1⟩ := h
  obtain ⟨x, hx⟩ : ∃ x, bs[0]? = some x := ⟨bs[0], List.getElem?_eq_getElem h0⟩
  obtain ⟨_, _, ad, ea, _⟩ := h1 0 x hx
  exact ⟨ad, c, by rw [e, ea]⟩
theorem Parts.one {w : World} {v : Value} {bs : List Int} {B : Nat} (h : Bn B w v bs) (h0 : 0 < bs.length) (b : Nat) (hb : b = w.heap.size) : Parts (w.alloc (.cells #[v] 22)) (.slice (some ⟨b, 0, none⟩) 1 1) [(v, bs)] := by
  subst hb
  obtain ⟨ad, c, e⟩ := h.1.at0 h0
  refine ⟨_, _, rfl, fun i p hp => ?_⟩
  match i, hp with
  | 0, hp =>
    cases hp
    refine ⟨?_, h.1.fr ((Fr.refl (fun _ => False) _).alloc _) (fun _ h => h.elim), ad, _, c, e⟩
    exact cell_obj (heap_new _ _) 0 v rfl
set_option maxRecDepth 100000 in
theorem cMNum (w : World) (g : Nat) (TS : Nat → Prop) (bs : List Int) (long : Bool) (n : Int) (h : MK w g TS bs long) (hn : okI n) :
    Calls Tryz.prog 36 #[.pointer (some ⟨g, 0, none⟩), .int .i64 n] w fun e w' => e = .returned (.pointer (some ⟨g, 0, none⟩)) ∧ ∃ TS', MK w' g TS' (putB bs long (numB n)) (putL bs long (numB n)) ∧ Stp TS w w' TS' := by
  have hl := numB_len hn
  go_enter Tryz.func36, Tryz.ntmps36
  go_wp2_with fail
  refine (cNum w n hn).mono ?_
  rintro e w1 ⟨v, rfl, hb, hB⟩
  obtain ⟨ad, c, rfl⟩ := hb.1.at0 (by omega)
  have hP := Parts.one hb (by omega) w1.heap.size rfl
  have hF : Fr (fun _ => False) w (w1.alloc (.cells #[.slice (some ad) (numB n).length c] 22)) := ((Fr.below hB).mono (fun _ _ h => h)).alloc _
  have hM := h.fr hF (fun _ _ h => h)
  have hcat : catL [(Value.slice (some ad) (numB n).length c, numB n)] = numB n := by simp [catL]
  have HP := Lib.hid hP; have HM := Lib.hid hM; have HF := Lib.hid hF; have HC := Lib.hid hcat; have HL := Lib.hid hl
  clear hb hP hM hF hcat hB h hl
  go_wp2_with fail
  refine (cPut _ g TS bs long _ _ HM.out HP.out (by simp) (by rw [HC.out]; have := HL.out; omega) (by rw [HC.out]; have := HL.out; omega)).mono ?_
  rw [HC.out]
  rintro e w2 ⟨rfl, TS', hM2, hs⟩
  go_wp2_with fail
  go_ret
  exact ⟨rfl, TS', hM2, (Stp.refl HF.out).trans hs⟩
set_option maxRecDepth 100000 in
theorem cClone (w : World) (v : Value) (bs : List Int) (h : Bs w v bs) (hl : (bs.length : Int) ≤ 140737488351232) : Calls Tryz.prog 65 #[v] w fun e w' =>
    ∃ v', e = .returned v' ∧ w'.ownsRow w.heap.size 5 1 v' bs.length (u8s bs) ∧ Below w.heap.size w w' := by
  obtain ⟨i0, hi', hz0, hz1, hz2⟩ := info_parts infoU8
  obtain ⟨hb1, a, c, rfl, hbx⟩ := id h
  obtain ⟨n, hn⟩ : ∃ n, bs.length = n := ⟨_, rfl⟩
  have HN := Lib.hid hn
  rw [hn] at hl hb1 ⊢
  clear hn
  have hq := fun (w : World) (a : Option Addr) (n c n' c' : Nat) => Lib.run_eql_slice_nil (P := Tryz.prog) w 22 _ a n c n' c' Tryz.underlying22
  cases a with
  | none =>
    have h0 : n = 0 := by
      rcases Nat.eq_zero_or_pos n with h0 | h0
      · exact h0
      · obtain ⟨ad, c', e⟩ := h.at0 (by have := HN.out; omega)
        injection e with e _ _; cases e
    subst h0
    have hbe : bs = [] := List.eq_nil_of_length_eq_zero HN.out
    subst hbe
    clear h hbx
    go_enter Tryz.func65, Tryz.ntmps65
    go_wp2_with fail
    go_ret
    exact ⟨_, rfl, World.ownsRow_nil _ _ _ _, Below.refl _ _⟩
  | some ad =>
    have hown : (w.alloc (.cells #[] 5)).ownsRow w.heap.size 5 1 (.slice (some ⟨w.heap.size, 0, none⟩) 0 0) 0 [] := World.ownsRow_made w #[] 0 (Nat.le_refl _) (Nat.zero_le _) rfl
    have hnews : ∀ (i : Nat) (u : Value), (u8s bs)[i]? = some u → (w.alloc (.cells #[] 5)).cell? (ad.add i) = some u := fun i u hu => by
      unfold u8s at hu
      rw [List.getElem?_map] at hu
      obtain ⟨x, hx, rfl⟩ := Option.map_eq_some_iff.1 hu
      obtain ⟨-, -, ad', e, hcell⟩ := hbx i x hx
      cases e
      exact ((Fr.refl (fun _ => False) w).alloc _).cell hcell (fun h => h)
    have hall : ∀ u ∈ u8s bs, u.oneCell' = true := fun u hu => by
      unfold u8s at hu
      obtain ⟨x, _, rfl⟩ := List.mem_map.1 hu
      rfl
    have hul : (u8s bs).length = n * 1 := by have := HN.out; simp [u8s]; exact this
    have HNEWS := Lib.hid hnews; have HALL := Lib.hid hall; have HUL := Lib.hid hul; have HO := Lib.hid hown
    clear hnews hall hul hown hbx h
    go_enter Tryz.func65, Tryz.ntmps65
    go_wp2_with (at_builtin; refine wpList_append_own_at _ rfl _ _ 22 rfl w.heap.size 5 i0 (.int .u8 0) 1 1 Tryz.underlying22 hi' hz0 hz1 hz2 rfl (by decide) (.slice (some ⟨w.heap.size, 0, none⟩) 0 0) 0 [] rfl HO.out ad n _ (u8s bs) rfl HUL.out HNEWS.out HALL.out (by unfold maxLen; omega) (by omega) (by simp) ?_; intro v' w5 hown' hgrow _ hat)
    go_ret
    refine ⟨_, rfl, by simpa using hown', ((Below.refl _ w).alloc (Nat.le_refl _) _).grown hgrow (by simp) (fun r hr => by cases hr; exact Nat.le_refl _)⟩
/-- A maker's end: its bytes anew, or an error. -/
theorem cMDone (w : World) (g : Nat) (TS : Nat → Prop) (bs : List Int) (long : Bool) (h : MK w g TS bs long) (hb : ∀ x ∈ bs, 0 ≤ x ∧ x < 256) :
    Calls Tryz.prog 38 #[.pointer (some ⟨g, 0, none⟩)] w fun e w' => Below w.heap.size w w' ∧ ∃ v, e = .returned (.tuple #[v, .int .i64 (if long then 3 else 0)]) ∧ w'.ownsRow w.heap.size 5 1 v (if long then [] else bs).length (u8s (if long then [] else bs)) := by
  obtain ⟨⟨vm, h1, h2, h3⟩, h4, h5, h6⟩ := id h
  obtain ⟨am, cm, rfl⟩ : ∃ a c, vm = .slice a bs.length c := by
    rcases h2.2 with ⟨e1, e2⟩ | ⟨_, _, _, e1, _⟩
    · exact ⟨_, _, by rw [e1, e2]⟩
    · exact ⟨_, _, e1⟩
  have hBs := (Bs.own h2 hb).1
  have hC := cClone w _ _ hBs (by omega)
  have b0 := cell_obj h1 0 (.slice am bs.length cm) rfl
  have b1 := cell_obj h1 1 (.bool long) rfl
  have HC := Lib.hid hC
  clear h hC hBs h2 h3 hb h4 h5 h1
  cases long with
  | true =>
    go_enter Tryz.func38, Tryz.ntmps38
    go_wp2_with fail
    go_returns
    exact ⟨Below.refl _ _, _, rfl, World.ownsRow_nil _ _ _ _⟩
  | false =>
    go_enter Tryz.func38, Tryz.ntmps38
    go_wp2_with fail
    refine HC.out.mono ?_
    rintro e w1 ⟨v, rfl, hown, hB⟩
    go_wp2_with fail
    go_returns
    exact ⟨hB, v, rfl, hown⟩
end Go.Proofs.YtefjdcghdcbojaaGreat

namespace Go.Proofs.YtefjdcghdcbojaaGreat
open Go.RowKit Go.Maps
set_option maxRecDepth 100000 in
theorem Bs.string {w : World} {v : Value} {bs : List Int} (h : Bs w v bs) : (convert 22 9 v).run Tryz.prog w = .ok (.string (strOfNums bs)) w := by
  rcases Nat.eq_zero_or_pos bs.length with h0 | h0
  · have : bs = [] := List.eq_nil_of_length_eq_zero h0
    subst this
    obtain ⟨_, a, c, rfl, _⟩ := h
    cases a with
    | none => exact run_convert_bytes_nil w 22 5 Tryz.underlying22 Tryz.underlying5 _ _ _ Tryz.underlying9
    | some ad =>
      rw [run_convert_bytes_string w 22 9 5 _ _ _ Tryz.underlying22 Tryz.underlying5 Tryz.underlying9]
      have := run_loadCells_list (P := Tryz.prog) w ad [] (fun j v hj => by simp at hj)
      rw [List.length_nil, run_bytesToString w ad 0 c [] (by simpa using this)]
      rfl
  · obtain ⟨ad, c, rfl⟩ := h.at0 h0
    obtain ⟨_, a, c', e, hx⟩ := h
    injection e with e1 _ _
    subst e1
    rw [run_convert_bytes_string w 22 9 5 _ _ _ Tryz.underlying22 Tryz.underlying5 Tryz.underlying9]
    have := run_loadCells_list (P := Tryz.prog) w ad (bs.map (Value.int .u8)) (fun j v hj => by
      rw [List.getElem?_map] at hj
      obtain ⟨x, hx2, rfl⟩ := Option.map_eq_some_iff.1 hj
      obtain ⟨_, _, ad', e, hc⟩ := hx j x hx2
      cases e; exact hc)
    rw [run_bytesToString w ad bs.length c bs (by simpa using this), foldl_push_bytes]
    simp [strOfNums, ByteArray.empty, ByteArray.emptyWithCapacity]
    rfl
theorem strOf_inj {x y : List Int} (hx : ∀ b ∈ x, 0 ≤ b ∧ b < 256) (hy : ∀ b ∈ y, 0 ≤ b ∧ b < 256) (h : strOfNums x = strOfNums y) : x = y := by
  have h1 : x.map (fun n => UInt8.ofNat n.toNat) = y.map (fun n => UInt8.ofNat n.toNat) := by rw [← strOfNums_data, ← strOfNums_data, h]
  induction x generalizing y with
  | nil => cases y with
    | nil => rfl
    | cons b r => simp at h1
  | cons a r ih => cases y with
    | nil => simp at h1
    | cons b s =>
      simp only [List.map_cons, List.cons.injEq] at h1
      have ha := hx a (by simp)
      have hb := hy b (by simp)
      have e := congrArg UInt8.toNat h1.1
      rw [UInt8.toNat_ofNat', UInt8.toNat_ofNat'] at e
      have : a = b := by omega
      rw [this, ih (fun z hz => hx z (by simp [hz])) (fun z hz => hy z (by simp [hz])) ?_ h1.2]
      unfold strOfNums
      rw [h1.2]
theorem strNe {a b : ByteArray} (h : a ≠ b) : (a.toList == b.toList) = false := by
  have : a.toList ≠ b.toList := fun e => by
    rw [ByteArray.toList_eq, ByteArray.toList_eq] at e
    apply h
    cases a; cases b
    simp only [ByteArray.mk.injEq]
    exact Array.toList_inj.1 e
  simpa using this
theorem Bs.take {w : World} {a : Option Addr} {n c k : Nat} {bs : List Int} (h : Bs w (.slice a n c) bs) (hk : k ≤ n) : Bs w (.slice a k c) (bs.take k) := by
  obtain ⟨h0, a', c', e, hx⟩ := h
  injection e with e1 e2 e3
  subst e1 e3
  have hl : (bs.take k).length = k := by rw [List.length_take]; omega
  refine ⟨by omega, a, c, by rw [hl], fun i x hi => ?_⟩
  rw [List.getElem?_take] at hi
  split at hi
  · exact hx i x hi
  · cases hi
end Go.Proofs.YtefjdcghdcbojaaGreat

namespace Go.Proofs.YtefjdcghdcbojaaGreat
open Go.RowKit Go.Maps
def dSize (h : Int) : Int := if 144 ≤ h then h - 144 else h - 128
def dTurn (h : Int) : Int := if 144 ≤ h then 18446744073709551615 else 0
def dStep (u c : Int) : Int := bits .or .u64 (IntKind.u64.wrap (u * 256)) c
def dU (l : List Int) : Int := l.foldl dStep 0
def dN (h : Int) (l : List Int) : Int := wrap64 (bits .xor .u64 (dU l) (dTurn h))
/-- The number with whose cell bytes begin. -/
def firstB (bs : List Int) : Option (Int × Nat) :=
  match bs with
  | [] => none
  | h :: r => if h < 128 then some (h, 1) else if 8 < dSize h ∨ (r.length : Int) < dSize h then none
    else if numB (dN h (r.take (dSize h).toNat)) = h :: r.take (dSize h).toNat then some (dN h (r.take (dSize h).toNat), 1 + (dSize h).toNat) else none
theorem dU_succ {l : List Int} {k : Nat} {x : Int} (h : l[k]? = some x) : dU (l.take (k + 1)) = dStep (dU (l.take k)) x := by
  unfold dU
  rw [List.take_add_one, h, List.foldl_append]; rfl
def firstV (o : Option (Int × Nat)) : Value := match o with
  | some (n, k) => .tuple #[.int .i64 n, .int .i64 k, .int .i64 0]
  | none => .tuple #[.int .i64 0, .int .i64 0, .int .i64 10]
set_option maxRecDepth 100000 in
set_option maxHeartbeats 4000000 in
theorem cFirst (w : World) (v : Value) (bs : List Int) (h : Bs w v bs) (hcap : ∀ a n c, v = .slice a n c → n ≤ c) : Calls Tryz.prog 67 #[v] w fun e w' => e = .returned (firstV (firstB bs)) ∧ Below w.heap.size w w' := by
  obtain ⟨hlen, a, c, rfl, hx⟩ := id h
  cases bs with
  | nil =>
    clear h hx
    unfold firstB firstV
    dsimp only
    go_enter Tryz.func67, Tryz.ntmps67
    go_wp2
    go_returns
    exact ⟨rfl, Below.refl _ _⟩
  | cons hd r =>
    obtain ⟨h0, h1, ad, rfl, hc⟩ := hx 0 hd rfl
    have hc0 : w.cell? ad = some (.int .u8 hd) := by have := hc; unfold Addr.add at this; simpa using this
    obtain ⟨n, hn⟩ : ∃ n, r.length = n := ⟨_, rfl⟩
    have HN := Lib.hid hn
    have hl : (hd :: r).length = n + 1 := by rw [List.length_cons, hn]
    rw [hl] at hlen h ⊢
    by_cases hs : hd < 128
    · have e : firstB (hd :: r) = some (hd, 1) := by simp [firstB, hs]
      rw [e]
      unfold firstV
      dsimp only
      clear hx h hl hn e
      go_enter Tryz.func67, Tryz.ntmps67
      go_wp2
      go_returns
      exact ⟨rfl, Below.refl _ _⟩
    · have hcn : n + 1 ≤ c := by rw [← hl]; exact hcap _ _ _ (by rw [hl])
      have hbyte : ∀ x ∈ r, 0 ≤ x ∧ x < 256 := fun x hxr => by
        obtain ⟨i, hi, rfl⟩ := List.getElem_of_mem hxr
        obtain ⟨z0, z1, _⟩ := hx (i + 1) r[i] (by simp)
        exact ⟨z0, z1⟩
      have hcell : ∀ (i : Nat) (x : Int), r[i]? = some x → w.cell? (ad.add (1 + i)) = some (.int .u8 x) := fun i x hi => by
        obtain ⟨_, _, ad', e, hc⟩ := hx (i + 1) x (by simpa using hi)
        cases e
        rw [Nat.add_comm]; exact hc
      have HB := Lib.hid hbyte; have HC := Lib.hid hcell; have HH := Lib.hid h
      obtain ⟨S, hS⟩ : ∃ S, dSize hd = S := ⟨_, rfl⟩
      obtain ⟨T, hT⟩ : ∃ T, dTurn hd = T := ⟨_, rfl⟩
      have HS := Lib.hid hS; have HT := Lib.hid hT
      have hS0 : 0 ≤ S := by rw [← hS]; unfold dSize; split <;> omega
      by_cases hbad : 8 < S ∨ (n : Int) < S
      · have e : firstB (hd :: r) = none := by
          have := HN.out
          simp only [firstB, hs, if_false, hS]
          rw [if_pos (by rw [this]; exact hbad)]
        rw [e]
        unfold firstV
        dsimp only
        clear hbyte hcell hx h hl hn e hT hcap
        rcases (by omega : 8 < S ∨ S ≤ 8 ∧ (n : Int) < S) with hb1 | ⟨hb1, hb2⟩ <;> rcases (by omega : 144 ≤ hd ∨ hd < 144) with hh | hh
        all_goals
          first
          | (have hSe : S = hd - 144 := by rw [← hS]; unfold dSize; rw [if_pos hh])
          | (have hSe : S = hd - 128 := by rw [← hS]; unfold dSize; rw [if_neg (by omega)])
          clear hS hbad
          subst hSe
          go_enter Tryz.func67, Tryz.ntmps67
          go_wp2
          go_returns
          exact ⟨rfl, Below.refl _ _⟩
      · obtain ⟨m, rfl⟩ : ∃ m : Nat, S = m := ⟨S.toNat, by omega⟩
        have hm8 : (m : Int) ≤ 8 := by omega
        have hmn : (m : Int) ≤ n := by omega
        have e : firstB (hd :: r) = if numB (dN hd (r.take m)) = hd :: r.take m then some (dN hd (r.take m), 1 + m) else none := by
          have := HN.out
          simp only [firstB, hs, if_false, hS, Int.toNat_natCast]
          rw [if_neg (by rw [this]; exact hbad)]
        obtain ⟨N, hN⟩ : ∃ N, dN hd (r.take m) = N := ⟨_, rfl⟩
        have hdn : wrap64 (bits .xor .u64 (dU (r.take m)) T) = N := by rw [← hN]; unfold dN; rw [hT]
        have hNk : okI N := by rw [← hN]; unfold dN wrap64 okI; omega
        rw [e, hN]
        have HDN := Lib.hid hdn; have HNK := Lib.hid hNk
        clear hN hNk
        have hl8 : ((r.take m).length : Nat) = m := by rw [List.length_take]; have := HN.out; omega
        have HL8 := Lib.hid hl8
        clear e hdn hx hbyte hcell hl8
        have htake : ∀ (h' : Int), Bs w (.slice (some ad) (n + 1) c) (h' :: r) → Bs w (.slice (some ad) (1 + m) c) (h' :: r.take m) := fun h' hb => by
          have := hb.take (k := 1 + m) (by omega)
          rw [Nat.add_comm 1 m, List.take_succ_cons] at this
          rw [Nat.add_comm 1 m]; exact this
        have HTK := Lib.hid (htake hd h)
        clear htake
        have hbytes : ∀ x ∈ hd :: r.take m, 0 ≤ x ∧ x < 256 := fun x hx => by
          rcases List.mem_cons.1 hx with rfl | hx
          · exact ⟨h0, h1⟩
          · exact HB.out x (List.mem_of_mem_take hx)
        have hiff : strOfNums (numB N) = strOfNums (hd :: r.take m) ↔ numB N = hd :: r.take m := ⟨fun e => strOf_inj (fun x hx => numB_mem HNK.out hx) hbytes e, fun e => by rw [e]⟩
        obtain ⟨sa, hsa⟩ : ∃ x, strOfNums (numB N) = x := ⟨_, rfl⟩
        obtain ⟨sb, hsb⟩ : ∃ x, strOfNums (hd :: r.take m) = x := ⟨_, rfl⟩
        rw [hsa, hsb] at hiff
        have HIFF := Lib.hid hiff; have HSA := Lib.hid hsa; have HSB := Lib.hid hsb
        clear hiff hbytes hsa hsb
        rcases (by omega : 144 ≤ hd ∨ hd < 144) with hh | hh
        · have hde : hd = (m : Int) + 144 := by have := hS; unfold dSize at this; rw [if_pos hh] at this; omega
          have hTe : T = 18446744073709551615 := by rw [← hT]; unfold dTurn; rw [if_pos hh]
          clear hS hT HS HT hbad h hn hl hcap
          subst hTe
          subst hde
          by_cases hc1 : c = 1
          · subst hc1
            rcases Decidable.em (sa = sb) with heq | hne
            · skip
              have hv : (if numB N = ((m : Int) + 144) :: r.take m then some (N, 1 + m) else none) = some (N, 1 + m) := if_pos (HIFF.out.1 heq)
              rw [hv]
              clear hv
              subst heq
              unfold firstV
              dsimp only
              go_enter Tryz.func67, Tryz.ntmps67
              go_wp2_with fail
              go_loopw [8, 41] (fun u i wr => ∃ k : Nat, (k : Int) ≤ m ∧ u = .int .u64 (dU (r.take k)) ∧ i = .int .i64 k ∧ wr = w) (fun _ i _ => m - (intOf i).toNat)
              case atStart => exact ⟨0, by omega, rfl, rfl, rfl⟩
              case round =>
                obtain ⟨k, hk, rfl, rfl, rfl⟩ := hrel
                by_cases hkm : (k : Int) < m
                · exact absurd hkm (by omega)
                · have hke : k = m := by omega
                  subst hke
                  clear hkm hk
                  go_wp2_with fail
                  rw [HDN.out]
                  have hc2 := Lib.hid (cNum wr.drew N HNK.out)
                  have hq0 := (HTK.out.fr (Fr.refl (fun _ => False) _).drew (fun _ h => h.elim)).string
                  rw [HSB.out] at hq0
                  have hb1 : (1 : Int) + (k : Int) ≤ 1 := by omega
                  have hb0 : (0 : Int) ≤ 1 + (k : Int) := by omega
                  have hwr : IntKind.i64.wrap (1 + (k : Int)) = 1 + (k : Int) := by rw [IntKind.wrap_i64]; omega
                  have htn : (1 + (k : Int)).toNat = 1 + k := by omega
                  go_region_with (go_at_call 83; refine hc2.out.mono ?_; rintro e w1 ⟨v, rfl, hb, hB⟩; have hv1 := hb.1.string; rw [HSA.out] at hv1; have hq1 := ((HTK.out.fr (Fr.refl (fun _ => False) _).drew (fun _ h => h.elim)).fr (Fr.below (S := fun _ => False) hB) (fun _ h => h.elim)).string; rw [HSB.out] at hq1; have HBB := Lib.hid hB; clear hb hB)
                  all_goals
                    go_wp2_with fail
                    go_returns
                    exact ⟨rfl, ((Below.refl _ _).drew).trans HBB.out⟩
            · skip
              have hv : (if numB N = ((m : Int) + 144) :: r.take m then some (N, 1 + m) else none) = none := if_neg (fun e => hne (HIFF.out.2 e))
              rw [hv]
              clear hv
              have hbne : (sa.toList == sb.toList) = false := strNe hne
              unfold firstV
              dsimp only
              go_enter Tryz.func67, Tryz.ntmps67
              go_wp2_with fail
              go_loopw [8, 41] (fun u i wr => ∃ k : Nat, (k : Int) ≤ m ∧ u = .int .u64 (dU (r.take k)) ∧ i = .int .i64 k ∧ wr = w) (fun _ i _ => m - (intOf i).toNat)
              case atStart => exact ⟨0, by omega, rfl, rfl, rfl⟩
              case round =>
                obtain ⟨k, hk, rfl, rfl, rfl⟩ := hrel
                by_cases hkm : (k : Int) < m
                · exact absurd hkm (by omega)
                · have hke : k = m := by omega
                  subst hke
                  clear hkm hk
                  go_wp2_with fail
                  rw [HDN.out]
                  have hc2 := Lib.hid (cNum wr.drew N HNK.out)
                  have hq0 := (HTK.out.fr (Fr.refl (fun _ => False) _).drew (fun _ h => h.elim)).string
                  rw [HSB.out] at hq0
                  have hb1 : (1 : Int) + (k : Int) ≤ 1 := by omega
                  have hb0 : (0 : Int) ≤ 1 + (k : Int) := by omega
                  have hwr : IntKind.i64.wrap (1 + (k : Int)) = 1 + (k : Int) := by rw [IntKind.wrap_i64]; omega
                  have htn : (1 + (k : Int)).toNat = 1 + k := by omega
                  go_region_with (go_at_call 83; refine hc2.out.mono ?_; rintro e w1 ⟨v, rfl, hb, hB⟩; have hv1 := hb.1.string; rw [HSA.out] at hv1; have hq1 := ((HTK.out.fr (Fr.refl (fun _ => False) _).drew (fun _ h => h.elim)).fr (Fr.below (S := fun _ => False) hB) (fun _ h => h.elim)).string; rw [HSB.out] at hq1; have HBB := Lib.hid hB; clear hb hB)
                  all_goals
                    go_wp2_with fail
                    go_returns
                    exact ⟨rfl, ((Below.refl _ _).drew).trans HBB.out⟩
          · skip
            rcases Decidable.em (sa = sb) with heq | hne
            · skip
              have hv : (if numB N = ((m : Int) + 144) :: r.take m then some (N, 1 + m) else none) = some (N, 1 + m) := if_pos (HIFF.out.1 heq)
              rw [hv]
              clear hv
              subst heq
              unfold firstV
              dsimp only
              go_enter Tryz.func67, Tryz.ntmps67
              go_wp2_with fail
              go_loopw [8, 41] (fun u i wr => ∃ k : Nat, (k : Int) ≤ m ∧ u = .int .u64 (dU (r.take k)) ∧ i = .int .i64 k ∧ wr = w) (fun _ i _ => m - (intOf i).toNat)
              case atStart => exact ⟨0, by omega, rfl, rfl, rfl⟩
              case round =>
                obtain ⟨k, hk, rfl, rfl, rfl⟩ := hrel
                by_cases hkm : (k : Int) < m
                · obtain ⟨x, hx⟩ : ∃ x, r[k]? = some x := ⟨r[k]'(by have := HN.out; omega), List.getElem?_eq_getElem _⟩
                  have hcx := HC.out k x hx
                  obtain ⟨x0, x1⟩ := HB.out x (List.mem_of_getElem? hx)
                  have hcx : wr.cell? ⟨ad.block, ad.off + 1 + k, none⟩ = some (.int .u8 x) := by
                    rw [← hcx]
                    unfold Addr.add
                    rw [if_neg (by omega)]
                    congr 2; omega
                  have HU := Lib.hid (dU_succ hx)
                  generalize dU (r.take k) = u at *
                  clear hx
                  go_wp2
                  go_roundw
                  case rel => exact ⟨k + 1, by omega, by rw [HU.out]; rfl, by go_num, by trivial⟩
                  case measure => simp [intOf]; omega
                · have hke : k = m := by omega
                  subst hke
                  clear hkm hk
                  go_wp2_with fail
                  rw [HDN.out]
                  have hc2 := Lib.hid (cNum wr.drew N HNK.out)
                  have hq0 := (HTK.out.fr (Fr.refl (fun _ => False) _).drew (fun _ h => h.elim)).string
                  rw [HSB.out] at hq0
                  have hb1 : (1 : Int) + (k : Int) ≤ (c : Int) := by omega
                  have hb0 : (0 : Int) ≤ 1 + (k : Int) := by omega
                  have hb3 : ¬ c = 0 := by omega
                  have hwr : IntKind.i64.wrap (1 + (k : Int)) = 1 + (k : Int) := by rw [IntKind.wrap_i64]; omega
                  have htn : (1 + (k : Int)).toNat = 1 + k := by omega
                  go_region_with (go_at_call 83; refine hc2.out.mono ?_; rintro e w1 ⟨v, rfl, hb, hB⟩; have hv1 := hb.1.string; rw [HSA.out] at hv1; have hq1 := ((HTK.out.fr (Fr.refl (fun _ => False) _).drew (fun _ h => h.elim)).fr (Fr.below (S := fun _ => False) hB) (fun _ h => h.elim)).string; rw [HSB.out] at hq1; have HBB := Lib.hid hB; clear hb hB)
                  all_goals
                    go_wp2_with fail
                    go_returns
                    exact ⟨rfl, ((Below.refl _ _).drew).trans HBB.out⟩
            · skip
              have hv : (if numB N = ((m : Int) + 144) :: r.take m then some (N, 1 + m) else none) = none := if_neg (fun e => hne (HIFF.out.2 e))
              rw [hv]
              clear hv
              have hbne : (sa.toList == sb.toList) = false := strNe hne
              unfold firstV
              dsimp only
              go_enter Tryz.func67, Tryz.ntmps67
              go_wp2_with fail
              go_loopw [8, 41] (fun u i wr => ∃ k : Nat, (k : Int) ≤ m ∧ u = .int .u64 (dU (r.take k)) ∧ i = .int .i64 k ∧ wr = w) (fun _ i _ => m - (intOf i).toNat)
              case atStart => exact ⟨0, by omega, rfl, rfl, rfl⟩
              case round =>
                obtain ⟨k, hk, rfl, rfl, rfl⟩ := hrel
                by_cases hkm : (k : Int) < m
                · obtain ⟨x, hx⟩ : ∃ x, r[k]? = some x := ⟨r[k]'(by have := HN.out; omega), List.getElem?_eq_getElem _⟩
                  have hcx := HC.out k x hx
                  obtain ⟨x0, x1⟩ := HB.out x (List.mem_of_getElem? hx)
                  have hcx : wr.cell? ⟨ad.block, ad.off + 1 + k, none⟩ = some (.int .u8 x) := by
                    rw [← hcx]
                    unfold Addr.add
                    rw [if_neg (by omega)]
                    congr 2; omega
                  have HU := Lib.hid (dU_succ hx)
                  generalize dU (r.take k) = u at *
                  clear hx
                  go_wp2
                  go_roundw
                  case rel => exact ⟨k + 1, by omega, by rw [HU.out]; rfl, by go_num, by trivial⟩
                  case measure => simp [intOf]; omega
                · have hke : k = m := by omega
                  subst hke
                  clear hkm hk
                  go_wp2_with fail
                  rw [HDN.out]
                  have hc2 := Lib.hid (cNum wr.drew N HNK.out)
                  have hq0 := (HTK.out.fr (Fr.refl (fun _ => False) _).drew (fun _ h => h.elim)).string
                  rw [HSB.out] at hq0
                  have hb1 : (1 : Int) + (k : Int) ≤ (c : Int) := by omega
                  have hb0 : (0 : Int) ≤ 1 + (k : Int) := by omega
                  have hb3 : ¬ c = 0 := by omega
                  have hwr : IntKind.i64.wrap (1 + (k : Int)) = 1 + (k : Int) := by rw [IntKind.wrap_i64]; omega
                  have htn : (1 + (k : Int)).toNat = 1 + k := by omega
                  go_region_with (go_at_call 83; refine hc2.out.mono ?_; rintro e w1 ⟨v, rfl, hb, hB⟩; have hv1 := hb.1.string; rw [HSA.out] at hv1; have hq1 := ((HTK.out.fr (Fr.refl (fun _ => False) _).drew (fun _ h => h.elim)).fr (Fr.below (S := fun _ => False) hB) (fun _ h => h.elim)).string; rw [HSB.out] at hq1; have HBB := Lib.hid hB; clear hb hB)
                  all_goals
                    go_wp2_with fail
                    go_returns
                    exact ⟨rfl, ((Below.refl _ _).drew).trans HBB.out⟩
        · have hde : hd = (m : Int) + 128 := by have := hS; unfold dSize at this; rw [if_neg (by omega)] at this; omega
          have hTe : T = 0 := by rw [← hT]; unfold dTurn; rw [if_neg (by omega)]
          clear hS hT HS HT hbad h hn hl hcap
          subst hTe
          subst hde
          by_cases hc1 : c = 1
          · subst hc1
            rcases Decidable.em (sa = sb) with heq | hne
            · skip
              have hv : (if numB N = ((m : Int) + 128) :: r.take m then some (N, 1 + m) else none) = some (N, 1 + m) := if_pos (HIFF.out.1 heq)
              rw [hv]
              clear hv
              subst heq
              unfold firstV
              dsimp only
              go_enter Tryz.func67, Tryz.ntmps67
              go_wp2_with fail
              go_loopw [8, 41] (fun u i wr => ∃ k : Nat, (k : Int) ≤ m ∧ u = .int .u64 (dU (r.take k)) ∧ i = .int .i64 k ∧ wr = w) (fun _ i _ => m - (intOf i).toNat)
              case atStart => exact ⟨0, by omega, rfl, rfl, rfl⟩
              case round =>
                obtain ⟨k, hk, rfl, rfl, rfl⟩ := hrel
                by_cases hkm : (k : Int) < m
                · exact absurd hkm (by omega)
                · have hke : k = m := by omega
                  subst hke
                  clear hkm hk
                  go_wp2_with fail
                  rw [HDN.out]
                  have hc2 := Lib.hid (cNum wr.drew N HNK.out)
                  have hq0 := (HTK.out.fr (Fr.refl (fun _ => False) _).drew (fun _ h => h.elim)).string
                  rw [HSB.out] at hq0
                  have hb1 : (1 : Int) + (k : Int) ≤ 1 := by omega
                  have hb0 : (0 : Int) ≤ 1 + (k : Int) := by omega
                  have hwr : IntKind.i64.wrap (1 + (k : Int)) = 1 + (k : Int) := by rw [IntKind.wrap_i64]; omega
                  have htn : (1 + (k : Int)).toNat = 1 + k := by omega
                  go_region_with (go_at_call 83; refine hc2.out.mono ?_; rintro e w1 ⟨v, rfl, hb, hB⟩; have hv1 := hb.1.string; rw [HSA.out] at hv1; have hq1 := ((HTK.out.fr (Fr.refl (fun _ => False) _).drew (fun _ h => h.elim)).fr (Fr.below (S := fun _ => False) hB) (fun _ h => h.elim)).string; rw [HSB.out] at hq1; have HBB := Lib.hid hB; clear hb hB)
                  all_goals
                    go_wp2_with fail
                    go_returns
                    exact ⟨rfl, ((Below.refl _ _).drew).trans HBB.out⟩
            · skip
              have hv : (if numB N = ((m : Int) + 128) :: r.take m then some (N, 1 + m) else none) = none := if_neg (fun e => hne (HIFF.out.2 e))
              rw [hv]
              clear hv
              have hbne : (sa.toList == sb.toList) = false := strNe hne
              unfold firstV
              dsimp only
              go_enter Tryz.func67, Tryz.ntmps67
              go_wp2_with fail
              go_loopw [8, 41] (fun u i wr => ∃ k : Nat, (k : Int) ≤ m ∧ u = .int .u64 (dU (r.take k)) ∧ i = .int .i64 k ∧ wr = w) (fun _ i _ => m - (intOf i).toNat)
              case atStart => exact ⟨0, by omega, rfl, rfl, rfl⟩
              case round =>
                obtain ⟨k, hk, rfl, rfl, rfl⟩ := hrel
                by_cases hkm : (k : Int) < m
                · exact absurd hkm (by omega)
                · have hke : k = m := by omega
                  subst hke
                  clear hkm hk
                  go_wp2_with fail
                  rw [HDN.out]
                  have hc2 := Lib.hid (cNum wr.drew N HNK.out)
                  have hq0 := (HTK.out.fr (Fr.refl (fun _ => False) _).drew (fun _ h => h.elim)).string
                  rw [HSB.out] at hq0
                  have hb1 : (1 : Int) + (k : Int) ≤ 1 := by omega
                  have hb0 : (0 : Int) ≤ 1 + (k : Int) := by omega
                  have hwr : IntKind.i64.wrap (1 + (k : Int)) = 1 + (k : Int) := by rw [IntKind.wrap_i64]; omega
                  have htn : (1 + (k : Int)).toNat = 1 + k := by omega
                  go_region_with (go_at_call 83; refine hc2.out.mono ?_; rintro e w1 ⟨v, rfl, hb, hB⟩; have hv1 := hb.1.string; rw [HSA.out] at hv1; have hq1 := ((HTK.out.fr (Fr.refl (fun _ => False) _).drew (fun _ h => h.elim)).fr (Fr.below (S := fun _ => False) hB) (fun _ h => h.elim)).string; rw [HSB.out] at hq1; have HBB := Lib.hid hB; clear hb hB)
                  all_goals
                    go_wp2_with fail
                    go_returns
                    exact ⟨rfl, ((Below.refl _ _).drew).trans HBB.out⟩
          · skip
            rcases Decidable.em (sa = sb) with heq | hne
            · skip
              have hv : (if numB N = ((m : Int) + 128) :: r.take m then some (N, 1 + m) else none) = some (N, 1 + m) := if_pos (HIFF.out.1 heq)
              rw [hv]
              clear hv
              subst heq
              unfold firstV
              dsimp only
              go_enter Tryz.func67, Tryz.ntmps67
              go_wp2_with fail
              go_loopw [8, 41] (fun u i wr => ∃ k : Nat, (k : Int) ≤ m ∧ u = .int .u64 (dU (r.take k)) ∧ i = .int .i64 k ∧ wr = w) (fun _ i _ => m - (intOf i).toNat)
              case atStart => exact ⟨0, by omega, rfl, rfl, rfl⟩
              case round =>
                obtain ⟨k, hk, rfl, rfl, rfl⟩ := hrel
                by_cases hkm : (k : Int) < m
                · obtain ⟨x, hx⟩ : ∃ x, r[k]? = some x := ⟨r[k]'(by have := HN.out; omega), List.getElem?_eq_getElem _⟩
                  have hcx := HC.out k x hx
                  obtain ⟨x0, x1⟩ := HB.out x (List.mem_of_getElem? hx)
                  have hcx : wr.cell? ⟨ad.block, ad.off + 1 + k, none⟩ = some (.int .u8 x) := by
                    rw [← hcx]
                    unfold Addr.add
                    rw [if_neg (by omega)]
                    congr 2; omega
                  have HU := Lib.hid (dU_succ hx)
                  generalize dU (r.take k) = u at *
                  clear hx
                  go_wp2
                  go_roundw
                  case rel => exact ⟨k + 1, by omega, by rw [HU.out]; rfl, by go_num, by trivial⟩
                  case measure => simp [intOf]; omega
                · have hke : k = m := by omega
                  subst hke
                  clear hkm hk
                  go_wp2_with fail
                  rw [HDN.out]
                  have hc2 := Lib.hid (cNum wr.drew N HNK.out)
                  have hq0 := (HTK.out.fr (Fr.refl (fun _ => False) _).drew (fun _ h => h.elim)).string
                  rw [HSB.out] at hq0
                  have hb1 : (1 : Int) + (k : Int) ≤ (c : Int) := by omega
                  have hb0 : (0 : Int) ≤ 1 + (k : Int) := by omega
                  have hb3 : ¬ c = 0 := by omega
                  have hwr : IntKind.i64.wrap (1 + (k : Int)) = 1 + (k : Int) := by rw [IntKind.wrap_i64]; omega
                  have htn : (1 + (k : Int)).toNat = 1 + k := by omega
                  go_region_with (go_at_call 83; refine hc2.out.mono ?_; rintro e w1 ⟨v, rfl, hb, hB⟩; have hv1 := hb.1.string; rw [HSA.out] at hv1; have hq1 := ((HTK.out.fr (Fr.refl (fun _ => False) _).drew (fun _ h => h.elim)).fr (Fr.below (S := fun _ => False) hB) (fun _ h => h.elim)).string; rw [HSB.out] at hq1; have HBB := Lib.hid hB; clear hb hB)
                  all_goals
                    go_wp2_with fail
                    go_returns
                    exact ⟨rfl, ((Below.refl _ _).drew).trans HBB.out⟩
            · skip
              have hv : (if numB N = ((m : Int) + 128) :: r.take m then some (N, 1 + m) else none) = none := if_neg (fun e => hne (HIFF.out.2 e))
              rw [hv]
              clear hv
              have hbne : (sa.toList == sb.toList) = false := strNe hne
              unfold firstV
              dsimp only
              go_enter Tryz.func67, Tryz.ntmps67
              go_wp2_with fail
              go_loopw [8, 41] (fun u i wr => ∃ k : Nat, (k : Int) ≤ m ∧ u = .int .u64 (dU (r.take k)) ∧ i = .int .i64 k ∧ wr = w) (fun _ i _ => m - (intOf i).toNat)
              case atStart => exact ⟨0, by omega, rfl, rfl, rfl⟩
              case round =>
                obtain ⟨k, hk, rfl, rfl, rfl⟩ := hrel
                by_cases hkm : (k : Int) < m
                · obtain ⟨x, hx⟩ : ∃ x, r[k]? = some x := ⟨r[k]'(by have := HN.out; omega), List.getElem?_eq_getElem _⟩
                  have hcx := HC.out k x hx
                  obtain ⟨x0, x1⟩ := HB.out x (List.mem_of_getElem? hx)
                  have hcx : wr.cell? ⟨ad.block, ad.off + 1 + k, none⟩ = some (.int .u8 x) := by
                    rw [← hcx]
                    unfold Addr.add
                    rw [if_neg (by omega)]
                    congr 2; omega
                  have HU := Lib.hid (dU_succ hx)
                  generalize dU (r.take k) = u at *
                  clear hx
                  go_wp2
                  go_roundw
                  case rel => exact ⟨k + 1, by omega, by rw [HU.out]; rfl, by go_num, by trivial⟩
                  case measure => simp [intOf]; omega
                · have hke : k = m := by omega
                  subst hke
                  clear hkm hk
                  go_wp2_with fail
                  rw [HDN.out]
                  have hc2 := Lib.hid (cNum wr.drew N HNK.out)
                  have hq0 := (HTK.out.fr (Fr.refl (fun _ => False) _).drew (fun _ h => h.elim)).string
                  rw [HSB.out] at hq0
                  have hb1 : (1 : Int) + (k : Int) ≤ (c : Int) := by omega
                  have hb0 : (0 : Int) ≤ 1 + (k : Int) := by omega
                  have hb3 : ¬ c = 0 := by omega
                  have hwr : IntKind.i64.wrap (1 + (k : Int)) = 1 + (k : Int) := by rw [IntKind.wrap_i64]; omega
                  have htn : (1 + (k : Int)).toNat = 1 + k := by omega
                  go_region_with (go_at_call 83; refine hc2.out.mono ?_; rintro e w1 ⟨v, rfl, hb, hB⟩; have hv1 := hb.1.string; rw [HSA.out] at hv1; have hq1 := ((HTK.out.fr (Fr.refl (fun _ => False) _).drew (fun _ h => h.elim)).fr (Fr.below (S := fun _ => False) hB) (fun _ h => h.elim)).string; rw [HSB.out] at hq1; have HBB := Lib.hid hB; clear hb hB)
                  all_goals
                    go_wp2_with fail
                    go_returns
                    exact ⟨rfl, ((Below.refl _ _).drew).trans HBB.out⟩
end Go.Proofs.YtefjdcghdcbojaaGreat

namespace Go.Proofs.YtefjdcghdcbojaaGreat
open Go.RowKit Go.Maps
/-- A taker with bs left. -/
structure TK (w : World) (g : Nat) (TS : Nat → Prop) (bs : List Int) (bad : Bool) : Prop where
  ex : ∃ v, w.heap[g]? = some (.cells #[v, .bool bad] 113) ∧ Bs w v bs ∧ (∀ a n c, v = .slice a n c → n ≤ c) ∧ ∀ b, v.ownBlock = some b → TS b ∧ b ≠ g
  own : TS g
  lt : ∀ b, TS b → b < w.heap.size
theorem Bs.keep {S : Nat → Prop} {w w' : World} {v : Value} {bs : List Int} (h : Bs w v bs) (hf : Fr S w w') (hS : ∀ b, v.ownBlock = some b → ¬ S b) : Bs w' v bs := by
  obtain ⟨h0, a, c, rfl, h1⟩ := h
  refine ⟨h0, a, c, rfl, fun i x hx => ?_⟩
  obtain ⟨b1, b2, ad, rfl, hc⟩ := h1 i x hx
  have hb : (ad.add i).block = ad.block := by unfold Addr.add; split <;> rfl
  exact ⟨b1, b2, ad, rfl, hf.cell hc (fun e => hS ad.block rfl (hb ▸ e))⟩
theorem TK.fr {S TS : Nat → Prop} {w w' : World} {g : Nat} {bs : List Int} {bad : Bool} (h : TK w g TS bs bad) (hf : Fr S w w') (hS : ∀ b, TS b → ¬ S b) : TK w' g TS bs bad := by
  obtain ⟨⟨v, h1, h2, h3, h4⟩, h5, h6⟩ := h
  exact ⟨⟨v, hf.at_ h1 (hS _ h5), h2.keep hf (fun b hb => hS _ (h4 b hb).1), h3, h4⟩, h5, fun b hb => Nat.lt_of_lt_of_le (h6 b hb) hf.size⟩
/-- What a taker's Num gives, and what is left. -/
def numT (bs : List Int) (bad : Bool) (least most : Int) : Int × List Int × Bool :=
  if bad = true then (0, bs, true) else match firstB bs with
    | some (n, k) => if n < least ∨ most < n then (0, bs, true) else (n, bs.drop k, false)
    | none => (0, bs, true)
set_option maxRecDepth 100000 in
theorem cTake (w : World) (v : Value) (bs : List Int) (h : Bs w v bs) (hl : (bs.length : Int) ≤ 140737488351232) (hb : ∀ x ∈ bs, 0 ≤ x ∧ x < 256) : Calls Tryz.prog 20 #[v] w fun e w' =>
    ∃ g TS, e = .returned (.pointer (some ⟨g, 0, none⟩)) ∧ TK w' g TS bs false ∧ Fr (fun _ => False) w w' ∧ ∀ b, TS b → w.heap.size ≤ b := by
  have hC := cClone w v bs h hl
  have HC := Lib.hid hC; have HB := Lib.hid hb
  obtain ⟨_, a, c, rfl, _⟩ := h
  clear hC hb
  go_enter Tryz.func20, Tryz.ntmps20
  go_wp2_with fail
  refine HC.out.mono ?_
  rintro e w1 ⟨v', rfl, hown, hB⟩
  have hBs := Bs.own hown HB.out
  obtain ⟨_, a', c', rfl, _⟩ := id hBs.1
  have hcap : ∀ a n c, Value.slice a' bs.length c' = .slice a n c → n ≤ c := fun a n c e => by
    injection e with e1 e2 e3
    subst e1 e2 e3
    rcases hown.2 with ⟨e, e2⟩ | ⟨g, cap, cur, e, _, _, h1, _⟩
    · omega
    · injection e with _ _ e3
      omega
  have hlt := fun b hb => hown.lt b hb
  have HBS := Lib.hid hBs; have HCAP := Lib.hid hcap; have HLT := Lib.hid hlt; have HBB := Lib.hid hB
  clear hown hBs hcap hlt hB
  go_wp2_with fail
  go_ret
  refine ⟨_, fun b => b = w1.heap.size ∨ (Value.slice a' bs.length c').ownBlock = some b, rfl, ⟨⟨_, heap_new _ _, HBS.out.1.keep ((Fr.refl (fun _ => False) _).alloc _) (fun _ _ h => h), HCAP.out, fun b hb => ⟨.inr hb, ?_⟩⟩, .inl rfl, ?_⟩, ((Fr.below HBB.out).mono (fun _ _ h => h)).alloc _, ?_⟩
  · have := (HLT.out b hb).2; omega
  · rintro b (rfl | hb)
    · simp
    · have := (HLT.out b hb).2; simp; omega
  · rintro b (rfl | hb)
    · exact HBB.out.size
    · exact (HLT.out b hb).1
theorem cMay (w : World) (g : Nat) (TS : Nat → Prop) (bs : List Int) (bad : Bool) (h : TK w g TS bs bad) : Calls Tryz.prog 66 #[.pointer (some ⟨g, 0, none⟩)] w fun e w' => e = .returned (.bool (!bad)) ∧ w = w' := by
  obtain ⟨⟨v, h1, h2, h3, h4⟩, h5, h6⟩ := h
  have b1 := cell_obj h1 1 (.bool bad) rfl
  clear h1 h2 h3 h4 h5 h6
  go_enter Tryz.func66, Tryz.ntmps66
  go_wp2
  go_ret
  exact ⟨rfl, rfl⟩
theorem cFault (w : World) (g : Nat) (TS : Nat → Prop) (bs : List Int) (bad : Bool) (h : TK w g TS bs bad) : Calls Tryz.prog 68 #[.pointer (some ⟨g, 0, none⟩)] w fun e w' => (∃ v, e = .returned v) ∧ TK w' g TS bs true ∧ Fr TS w w' := by
  obtain ⟨⟨v, h1, h2, h3, h4⟩, h5, h6⟩ := h
  have b1 := cell_obj h1 1 (.bool bad) rfl
  have f1 := obj_frozen h1 1
  have H1 := Lib.hid h1; have H2 := Lib.hid h2; have H3 := Lib.hid h3; have H4 := Lib.hid h4; have H5 := Lib.hid h5; have H6 := Lib.hid h6
  clear h1 h2 h3 h4 h5 h6
  go_enter Tryz.func68, Tryz.ntmps68
  go_wp2
  go_end0
  have hF : Fr (fun b => b = g) w (w.setCell ⟨g, 1, none⟩ (.bool true)) := (Fr.refl (fun b => b = g) w).setCell (p := ⟨g, 1, none⟩) (fun _ => rfl) _
  refine ⟨⟨_, rfl⟩, ⟨⟨v, obj_set H1.out 1 (.bool true), H2.out.keep hF (fun b hb => (H4.out b hb).2), H3.out, H4.out⟩, H5.out, fun b hb => by have := H6.out b hb; have := hF.size; omega⟩, hF.mono (fun b _ e => e ▸ H5.out)⟩
theorem Bs.drop {w : World} {a : Option Addr} {n c c' k : Nat} {bs : List Int} (h : Bs w (.slice a n c) bs) (hn : bs.length = n) (hk : k ≤ n) : Bs w (.slice (a.map fun x => x.add k) (n - k) c') (bs.drop k) := by
  obtain ⟨h0, a', c1, e, hx⟩ := h
  injection e with e1 e2 e3
  subst e1
  have hl : (bs.drop k).length = n - k := by rw [List.length_drop, hn]
  refine ⟨by omega, _, c', by rw [hl], fun i x hi => ?_⟩
  rw [List.getElem?_drop] at hi
  obtain ⟨b1, b2, ad, rfl, hc⟩ := hx (k + i) x hi
  exact ⟨b1, b2, _, rfl, by rw [Go.Deep.add_add]; exact hc⟩
theorem Bs.none' (w : World) (a : Option Addr) (c : Nat) : Bs w (.slice a 0 c) [] := ⟨by simp, a, c, rfl, fun i x h => by simp at h⟩
theorem firstB_le {bs : List Int} {n : Int} {k : Nat} (h : firstB bs = some (n, k)) : 1 ≤ k ∧ k ≤ bs.length := by
  cases bs with
  | nil => cases h
  | cons a r =>
    simp only [firstB] at h
    split at h
    · cases h; simp
    · split at h
      · cases h
      · split at h
        · cases h
          rename_i h1 _
          simp only [List.length_cons]
          omega
        · cases h
set_option maxRecDepth 100000 in
set_option maxHeartbeats 1000000 in
theorem cTNum (w : World) (g : Nat) (TS : Nat → Prop) (bs : List Int) (bad : Bool) (least most : Int) (h : TK w g TS bs bad) :
    Calls Tryz.prog 21 #[.pointer (some ⟨g, 0, none⟩), .int .i64 least, .int .i64 most] w fun e w' => e = .returned (.int .i64 (numT bs bad least most).1) ∧ TK w' g TS (numT bs bad least most).2.1 (numT bs bad least most).2.2 ∧ Fr TS w w' := by
  have hM := fun w h => cMay w g TS bs bad h
  have HM := Lib.hid hM; have HT := Lib.hid h
  clear hM
  cases bad with
  | true =>
    clear h
    unfold numT
    go_enter Tryz.func21, Tryz.ntmps21
    go_wp2_with (go_at_call 66; refine (HM.out _ HT.out).mono ?_; rintro e w1 ⟨rfl, rfl⟩)
    go_ret
    exact ⟨rfl, HT.out, Fr.refl _ _⟩
  | false =>
    obtain ⟨⟨v, h1, h2, h3, h4⟩, h5, h6⟩ := id h
    obtain ⟨_, a, c, rfl, _⟩ := id h2
    have b0 := cell_obj h1 0 (.slice a bs.length c) rfl
    have hFi := cFirst w _ bs h2 h3
    have HFI := Lib.hid hFi; have H1 := Lib.hid h1; have H2 := Lib.hid h2; have H3 := Lib.hid h3; have H4 := Lib.hid h4; have H5 := Lib.hid h5; have H6 := Lib.hid h6
    obtain ⟨o, ho⟩ : ∃ o, firstB bs = o := ⟨_, rfl⟩
    rw [ho] at HFI
    have HO := Lib.hid ho
    clear hFi h h1 h2 h3 h4 h5 h6 ho
    cases o with
    | none =>
      have e : numT bs false least most = (0, bs, true) := by simp [numT, HO.out]
      rw [e]
      clear e
      go_enter Tryz.func21, Tryz.ntmps21
      go_wp2_with (go_at_call 66; refine (HM.out _ HT.out).mono ?_; rintro e w1 ⟨rfl, rfl⟩)
      refine HFI.out.mono ?_
      rintro e w2 ⟨rfl, hB⟩
      unfold firstV
      dsimp only
      have HT2 := Lib.hid (HT.out.fr (Fr.below (S := fun _ => False) hB) (fun _ _ h => h)); have HBB := Lib.hid hB
      clear hB
      go_wp2_with fail
      refine (cFault _ _ _ _ _ HT2.out).mono ?_
      rintro e w3 ⟨⟨v, rfl⟩, hT3, hF3⟩
      go_wp2_with fail
      go_ret
      exact ⟨rfl, hT3, ((Fr.below (S := TS) HBB.out)).trans' hF3 (fun _ _ h => h)⟩
    | some p =>
      obtain ⟨n, k⟩ := p
      obtain ⟨hk1, hk2⟩ := firstB_le HO.out
      by_cases hbnd : n < least ∨ most < n
      · have e : numT bs false least most = (0, bs, true) := by simp [numT, HO.out, hbnd]
        rw [e]
        clear e hk1 hk2
        rcases (by omega : n < least ∨ least ≤ n ∧ most < n) with hlo | ⟨hlo, hhi⟩
        all_goals
          clear hbnd
          go_enter Tryz.func21, Tryz.ntmps21
          go_wp2_with (go_at_call 66; refine (HM.out _ HT.out).mono ?_; rintro e w1 ⟨rfl, rfl⟩)
          refine HFI.out.mono ?_
          rintro e w2 ⟨rfl, hB⟩
          unfold firstV
          dsimp only
          have HT2 := Lib.hid (HT.out.fr (Fr.below (S := fun _ => False) hB) (fun _ _ h => h)); have HBB := Lib.hid hB
          clear hB
          go_wp2_with fail
          refine (cFault _ _ _ _ _ HT2.out).mono ?_
          rintro e w3 ⟨⟨v, rfl⟩, hT3, hF3⟩
          go_wp2_with fail
          go_ret
          exact ⟨rfl, hT3, ((Fr.below (S := TS) HBB.out)).trans' hF3 (fun _ _ h => h)⟩
      · have e : numT bs false least most = (n, bs.drop k, false) := by simp only [numT, HO.out, hbnd]; simp
        rw [e]
        have hlo : least ≤ n := by omega
        have hhi : n ≤ most := by omega
        clear e hbnd
        have hcap := H3.out _ _ _ rfl
        obtain ⟨ln, hln⟩ : ∃ ln, bs.length = ln := ⟨_, rfl⟩
        have HLN := Lib.hid hln
        rw [hln] at hk2 hcap b0
        clear hln
        go_enter Tryz.func21, Tryz.ntmps21
        go_wp2_with (go_at_call 66; refine (HM.out _ HT.out).mono ?_; rintro e w1 ⟨rfl, rfl⟩)
        rw [HLN.out] at HFI
        refine HFI.out.mono ?_
        rintro e w2 ⟨rfl, hB⟩
        unfold firstV
        dsimp only
        have hF2 := Fr.below (S := fun _ => False) hB
        have hG2 := hF2.at_ H1.out (fun h => h)
        rw [HLN.out] at hG2
        have c0 := cell_obj hG2 0 (.slice a ln c) rfl
        have f0 := obj_frozen hG2 0
        have HG2 := Lib.hid hG2; have HF2 := Lib.hid hF2
        clear hB hF2 hG2 b0
        have hpost : ∀ v' : Value, Bs w2 v' (bs.drop k) → (∀ a n c, v' = .slice a n c → n ≤ c) → (∀ b, v'.ownBlock = some b → (Value.slice a ln c).ownBlock = some b) →
            TK (w2.setCell ⟨g, 0, none⟩ v') g TS (bs.drop k) false ∧ Fr TS w (w2.setCell ⟨g, 0, none⟩ v') := fun v' hb hc ho => by
          have hF : Fr (fun b => b = g) w2 (w2.setCell ⟨g, 0, none⟩ v') := (Fr.refl (fun b => b = g) w2).setCell (p := ⟨g, 0, none⟩) (fun _ => rfl) _
          have h4 := H4.out
          rw [HLN.out] at h4
          refine ⟨⟨⟨v', obj_set HG2.out 0 v', hb.keep hF (fun b e => (h4 b (ho b e)).2), hc, fun b e => h4 b (ho b e)⟩, H5.out, fun b e => ?_⟩, (HF2.out.mono (fun _ _ h => h.elim)).trans' hF (fun b _ e => e ▸ H5.out)⟩
          have := H6.out b e; have := HF2.out.size; have := hF.size; omega
        have HPOST := Lib.hid hpost
        have hb2 : Bs w2 (.slice a ln c) bs := by have := H2.out.fr HF2.out (fun _ h => h.elim); rw [HLN.out] at this; exact this
        have HB2 := Lib.hid hb2
        clear hpost hb2
        go_wp2_with fail
        · have hck : c = k := by assumption
          have hlk : ln = k := by omega
          go_ret
          refine ⟨rfl, HPOST.out _ ?_ ?_ ?_⟩
          · have e0 : bs.drop k = [] := List.drop_eq_nil_of_le (by rw [HLN.out]; omega)
            rw [e0, show ln - k = 0 by omega]
            exact Bs.none' _ _ _
          · rintro a' n' c' e
            injection e with _ e2 e3
            omega
          · intro b e
            cases a with
            | none => cases e
            | some ad => exact e
        · go_ret
          refine ⟨rfl, HPOST.out _ (HB2.out.drop HLN.out hk2) ?_ ?_⟩
          · rintro a' n' c' e
            injection e with _ e2 e3
            omega
          · intro b e
            cases a with
            | none => cases e
            | some ad =>
              have hb : (ad.add k).block = ad.block := by unfold Addr.add; split <;> rfl
              simp only [Option.map, Value.ownBlock, hb] at e ⊢
              exact e
end Go.Proofs.YtefjdcghdcbojaaGreat

namespace Go.Proofs.YtefjdcghdcbojaaGreat
open Go.RowKit Go.Maps
def doneT (bs : List Int) (bad : Bool) : Int := if bad = true ∨ bs ≠ [] then 10 else 0
theorem cTDone (w : World) (g : Nat) (TS : Nat → Prop) (bs : List Int) (bad : Bool) (h : TK w g TS bs bad) :
    Calls Tryz.prog 23 #[.pointer (some ⟨g, 0, none⟩)] w fun e w' => e = .returned (.int .i64 (doneT bs bad)) ∧ w = w' := by
  obtain ⟨⟨v, h1, h2, -, -⟩, -, -⟩ := h
  obtain ⟨hlen, a, c, rfl, -⟩ := id h2
  have b0 := cell_obj h1 0 (.slice a bs.length c) rfl
  have b1 := cell_obj h1 1 (.bool bad) rfl
  clear h1 h2
  cases bad with
  | true =>
    clear b0
    rw [show doneT bs true = 10 by simp [doneT]]
    go_enter Tryz.func23, Tryz.ntmps23
    go_wp2
    go_ret
    exact ⟨rfl, rfl⟩
  | false =>
    cases bs with
    | nil =>
      rw [show doneT [] false = 0 by simp [doneT]]
      go_enter Tryz.func23, Tryz.ntmps23
      go_wp2
      go_ret
      exact ⟨rfl, rfl⟩
    | cons x r =>
      obtain ⟨n, hn⟩ : ∃ n, (x :: r).length = n + 1 := ⟨r.length, rfl⟩
      rw [hn] at b0 hlen
      clear hn
      rw [show doneT (x :: r) false = 10 by simp [doneT]]
      go_enter Tryz.func23, Tryz.ntmps23
      go_wp2
      go_ret
      exact ⟨rfl, rfl⟩
end Go.Proofs.YtefjdcghdcbojaaGreat

namespace Go.Proofs.YtefjdcghdcbojaaGreat
open Go.RowKit Go.Maps
abbrev Mst := List Int × Bool
def Byt (l : List Int) : Prop := ∀ x ∈ l, 0 ≤ x ∧ x < 256
end Go.Proofs.YtefjdcghdcbojaaGreat

namespace Go.Proofs.YtefjdcghdcbojaaGreat
open Go.RowKit Go.Maps
end Go.Proofs.YtefjdcghdcbojaaGreat

namespace Go.Proofs.YtefjdcghdcbojaaGreat
open Go.RowKit Go.Maps
abbrev Tst := List Int × Bool
def tk (t : Tst) (a b : Int) : Int × Tst := ((numT t.1 t.2 a b).1, (numT t.1 t.2 a b).2)
theorem tk_in (t : Tst) {a b : Int} (h0 : a ≤ 0) (h1 : 0 ≤ b) : a ≤ (tk t a b).1 ∧ (tk t a b).1 ≤ b := by
  unfold tk numT
  dsimp only
  split
  · exact ⟨h0, h1⟩
  · split
    · split
      · exact ⟨h0, h1⟩
      · dsimp only; omega
    · exact ⟨h0, h1⟩
theorem tk_in1 (t : Tst) {b : Int} (h1 : 0 ≤ b) : 0 ≤ (tk t 1 b).1 ∧ (tk t 1 b).1 ≤ b := by
  unfold tk numT
  dsimp only
  split
  · exact ⟨by omega, h1⟩
  · split
    · split
      · exact ⟨by omega, h1⟩
      · dsimp only; omega
    · exact ⟨by omega, h1⟩
theorem xTk (w : World) (g : Nat) (TS : Nat → Prop) (t : Tst) (a b : Int) (h : TK w g TS t.1 t.2) :
    Calls Tryz.prog 21 #[.pointer (some ⟨g, 0, none⟩), .int .i64 a, .int .i64 b] w fun e w' => e = .returned (.int .i64 (tk t a b).1) ∧ TK w' g TS (tk t a b).2.1 (tk t a b).2.2 ∧ Fr TS w w' := cTNum w g TS t.1 t.2 a b h
end Go.Proofs.YtefjdcghdcbojaaGreat

namespace Go.Proofs.YtefjdcghdcbojaaGreat
open Go.RowKit Go.Maps
/-- A text's bytes. -/
def sB (s : Str) : List Int := s.map fun c => (c.toNat : Int)
theorem sB_len (s : Str) : (sB s).length = s.length := by simp [sB]
theorem sB_byt (s : Str) : Byt (sB s) := by
  intro x hx
  obtain ⟨c, -, rfl⟩ := List.mem_map.1 hx
  have := c.toNat_lt
  omega
/-- A text's cell. -/
def textB (s : Str) : List Int := numB (s.length : Int) ++ sB s
theorem bytesWorld_fr (w : World) (e : TypeId) (s : ByteArray) : Fr (fun _ => False) w (Lib.bytesWorld w e s) :=
  ⟨rfl, rfl, rfl, by rw [Lib.bytesWorld_size]; omega, fun b hb _ => Lib.bytesWorld_at_old w e s b hb⟩
theorem bytesWorld_bs (w : World) (s : Str) (c : Nat) (hs : s.length ≤ 65536) : Bs (Lib.bytesWorld w 5 ⟨s.toArray⟩) (.slice (some ⟨w.heap.size, 0, none⟩) s.length c) (sB s) := by
  refine ⟨by rw [sB_len]; omega, some ⟨w.heap.size, 0, none⟩, c, by rw [sB_len], fun i x hx => ?_⟩
  have hb := sB_byt s x (List.mem_of_getElem? hx)
  refine ⟨hb.1, hb.2, _, rfl, ?_⟩
  have hi : i < s.length := by have := (List.getElem?_eq_some_iff.1 hx).1; rwa [sB_len] at this
  have := Lib.bytesWorld_cell w 5 ⟨s.toArray⟩ i (by simpa [ByteArray.size] using hi)
  rw [show (⟨w.heap.size, 0, none⟩ : Addr).add i = ⟨w.heap.size, i, none⟩ by simp [Addr.add]; omega, this]
  unfold sB at hx
  rw [List.getElem?_map, List.getElem?_eq_getElem hi] at hx
  injection hx with hx
  subst hx
  simp [List.getD, hi]
set_option maxRecDepth 100000 in
set_option maxHeartbeats 2000000 in
theorem cMText (w : World) (g : Nat) (TS : Nat → Prop) (bs : List Int) (long : Bool) (s : Str) (h : MK w g TS bs long) (hs : s.length ≤ 65536) :
    Calls Tryz.prog 85 #[.pointer (some ⟨g, 0, none⟩), vS s] w fun e w' => e = .returned (.pointer (some ⟨g, 0, none⟩)) ∧ ∃ TS', MK w' g TS' (putB bs long (textB s)) (putL bs long (textB s)) ∧ Stp TS w w' TS' := by
  have hn : okI (s.length : Int) := by unfold okI; omega
  have hl := numB_len hn
  have hN := Lib.hid (cNum w (s.length : Int) hn)
  have hcv := fun (W : World) => Lib.run_convert_string_bytes (P := Tryz.prog) W 9 22 5 ⟨s.toArray⟩ Tryz.underlying9 Tryz.underlying22 Tryz.underlying5
  have HH := Lib.hid h; have HL := Lib.hid hl
  have hsz : (ByteArray.mk s.toArray).size = s.length := by simp [ByteArray.size]
  simp only [hsz] at hcv
  clear h hl hsz
  go_enter Tryz.func85, Tryz.ntmps85
  go_wp2_with fail
  refine hN.out.mono ?_
  rintro e w1 ⟨v, rfl, hb, hB⟩
  obtain ⟨ad, c, rfl⟩ := hb.1.at0 (by have := HL.out; omega)
  have HBN := Lib.hid hb; have HB := Lib.hid hB
  clear hb hB
  go_wp2_with fail
  obtain ⟨cc, hcc⟩ : ∃ cc, grownCap w1 s.length 0 5 = cc := ⟨_, rfl⟩
  rw [hcc]
  have hFb := bytesWorld_fr w1 5 ⟨s.toArray⟩
  have hBs := bytesWorld_bs w1 s cc hs
  obtain ⟨V, hV⟩ : ∃ V, Lib.bytesWorld w1 5 ⟨s.toArray⟩ = V := ⟨_, rfl⟩
  rw [hV] at hFb hBs ⊢
  have hF2 : Fr (fun _ => False) w1 (V.alloc (.cells #[.slice (some ad) (numB (s.length : Int)).length c, .slice (some ⟨w1.heap.size, 0, none⟩) s.length cc] 22)) := hFb.alloc _
  have hF : Fr (fun _ => False) w _ := (Fr.below HB.out).trans hF2
  have hM := HH.out.fr hF (fun _ _ h => h)
  have hcat : catL [(Value.slice (some ad) (numB (s.length : Int)).length c, numB (s.length : Int)), (Value.slice (some ⟨w1.heap.size, 0, none⟩) s.length cc, sB s)] = textB s := by simp [catL, textB]
  have hblk := heap_new V (.cells #[.slice (some ad) (numB (s.length : Int)).length c, .slice (some ⟨w1.heap.size, 0, none⟩) s.length cc] 22)
  have hP : Parts (V.alloc (.cells #[.slice (some ad) (numB (s.length : Int)).length c, .slice (some ⟨w1.heap.size, 0, none⟩) s.length cc] 22)) (.slice (some ⟨V.heap.size, 0, none⟩) 2 2) [(Value.slice (some ad) (numB (s.length : Int)).length c, numB (s.length : Int)), (Value.slice (some ⟨w1.heap.size, 0, none⟩) s.length cc, sB s)] := by
    refine ⟨_, _, rfl, fun i p hp => ?_⟩
    match i, hp with
    | 0, hp =>
      cases hp
      exact ⟨cell_obj hblk 0 _ rfl, HBN.out.1.fr hF2 (fun _ h => h.elim), ad, _, c, rfl⟩
    | 1, hp =>
      cases hp
      exact ⟨cell_obj hblk 1 _ rfl, hBs.fr ((Fr.refl (fun _ => False) _).alloc _) (fun _ h => h.elim), ⟨w1.heap.size, 0, none⟩, _, cc, rfl⟩
  have HM := Lib.hid hM; have HP := Lib.hid hP; have HC := Lib.hid hcat; have HF := Lib.hid hF
  have hlt : Hid (0 < (textB s).length ∧ ((textB s).length : Int) ≤ 1099511627776) := Lib.hid (by have := HL.out; unfold textB; rw [List.length_append, sB_len]; omega)
  clear hFb hBs hV hF2 hF hM hcat hblk hP hcc
  refine (cPut _ g TS bs long _ _ HM.out HP.out (by simp) (by rw [HC.out]; exact hlt.out.2) (by rw [HC.out]; exact hlt.out.1)).mono ?_
  rw [HC.out]
  rintro e w2 ⟨rfl, TS', hM2, hs2⟩
  go_wp2_with fail
  go_ret
  exact ⟨rfl, TS', hM2, (Stp.refl HF.out).trans hs2⟩
end Go.Proofs.YtefjdcghdcbojaaGreat

namespace Go.Proofs.YtefjdcghdcbojaaGreat
open Go.RowKit Go.Maps
/-- Bytes, as a text. -/
def bS (bs : List Int) : Str := bs.map fun x => UInt8.ofNat x.toNat
theorem strOfNums_bS (bs : List Int) : strOfNums bs = ⟨(bS bs).toArray⟩ := rfl
/-- What a taker's Text gives, and what is left. -/
def tkT (t : Tst) (m : Int) : Str × Tst :=
  let n := tk t 0 m
  if n.2.2 = true then ([], n.2) else if (n.2.1.length : Int) < n.1 then ([], (n.2.1, true)) else (bS (n.2.1.take n.1.toNat), (n.2.1.drop n.1.toNat, false))
set_option maxRecDepth 100000 in
set_option maxHeartbeats 4000000 in
theorem cTText (w : World) (g : Nat) (TS : Nat → Prop) (t : Tst) (m : Int) (h : TK w g TS t.1 t.2) (hm : 0 ≤ m) :
    Calls Tryz.prog 69 #[.pointer (some ⟨g, 0, none⟩), .int .i64 m] w fun e w' => e = .returned (vS (tkT t m).1) ∧ TK w' g TS (tkT t m).2.1 (tkT t m).2.2 ∧ Fr TS w w' := by
  have hN := Lib.hid (xTk w g TS t 0 m h)
  have hin := tk_in t (a := 0) (b := m) (by omega) hm
  obtain ⟨N, hNN⟩ : ∃ N, tk t 0 m = N := ⟨_, rfl⟩
  have hT : Hid (tkT t m = if N.2.2 = true then ([], N.2) else if (N.2.1.length : Int) < N.1 then ([], (N.2.1, true)) else (bS (N.2.1.take N.1.toNat), (N.2.1.drop N.1.toNat, false))) := Lib.hid (by unfold tkT; rw [hNN])
  rw [hNN] at hN hin
  obtain ⟨n, bs, bad⟩ := N
  dsimp only at hN hin hT
  obtain ⟨h0, h1⟩ := hin
  obtain ⟨k, rfl⟩ : ∃ k : Nat, n = k := ⟨n.toNat, by omega⟩
  rw [Int.toNat_natCast] at hT
  clear h hNN
  cases bad with
  | true =>
    have hT2 : Hid (tkT t m = ([], (bs, true))) := Lib.hid (by rw [hT.out]; rfl)
    clear hT
    go_enter Tryz.func69, Tryz.ntmps69
    go_wp2_with fail
    refine hN.out.mono ?_
    rintro e w1 ⟨rfl, hK, hF⟩
    have HK := Lib.hid hK; have HF := Lib.hid hF
    clear hK hF
    go_wp2_with (go_at_call 66; refine (cMay w1 g TS bs true HK.out).mono ?_; rintro e w2 ⟨rfl, rfl⟩)
    go_ret
    rw [hT2.out]
    exact ⟨rfl, HK.out, HF.out⟩
  | false =>
    by_cases hlt : (bs.length : Int) < (k : Int)
    · have hT2 : Hid (tkT t m = ([], (bs, true))) := Lib.hid (by rw [hT.out, if_neg (by decide), if_pos hlt])
      clear hT
      go_enter Tryz.func69, Tryz.ntmps69
      go_wp2_with fail
      refine hN.out.mono ?_
      rintro e w1 ⟨rfl, hK, hF⟩
      obtain ⟨⟨v, k1, k2, k3, k4⟩, k5, k6⟩ := id hK
      obtain ⟨hbl, a, c, rfl, -⟩ := id k2
      have c0 := cell_obj k1 0 (.slice a bs.length c) rfl
      obtain ⟨ln, hln⟩ : ∃ ln, bs.length = ln := ⟨_, rfl⟩
      rw [hln] at c0 hlt hbl
      have HK := Lib.hid hK; have HF := Lib.hid hF
      clear hK hF k1 k2 k3 k4 k5 k6 hln
      go_wp2_with (first
        | (go_at_call 66; refine (cMay w1 g TS bs false HK.out).mono ?_; rintro e w2 ⟨rfl, rfl⟩)
        | (go_at_call 68; refine (cFault w1 g TS bs false HK.out).mono ?_; rintro e w2 ⟨⟨v, rfl⟩, hK2, hF2⟩; have HK2 := Lib.hid hK2; have HF2 := Lib.hid hF2; clear hK2 hF2))
      go_ret
      rw [hT2.out]
      exact ⟨rfl, HK2.out, HF.out.trans HF2.out⟩
    · have hT2 : Hid (tkT t m = (bS (bs.take k), (bs.drop k, false))) := Lib.hid (by rw [hT.out, if_neg (by decide), if_neg hlt])
      clear hT
      go_enter Tryz.func69, Tryz.ntmps69
      go_wp2_with fail
      refine hN.out.mono ?_
      rintro e w1 ⟨rfl, hK, hF⟩
      obtain ⟨⟨v, k1, k2, k3, k4⟩, k5, k6⟩ := id hK
      obtain ⟨hbl, a, c, rfl, -⟩ := id k2
      have c0 := cell_obj k1 0 (.slice a bs.length c) rfl
      have f0 := obj_frozen k1 0
      have hcap := k3 _ _ _ rfl
      obtain ⟨ln, hln⟩ : ∃ ln, bs.length = ln := ⟨_, rfl⟩
      have HLN := Lib.hid hln
      have k2 := k2
      have HK1 := Lib.hid k1; have HK2 := Lib.hid k2; have HK4 := Lib.hid k4; have HK5 := Lib.hid k5; have HK6 := Lib.hid k6
      rw [hln] at c0 hlt hbl hcap HK1 HK2 HK4
      have hkl : (k : Int) ≤ (ln : Int) := by omega
      have hk0 : (0 : Int) ≤ k := by omega
      have HK := Lib.hid hK; have HF := Lib.hid hF
      have hstr := (Bs.take HK2.out (k := k) (by omega)).string
      rw [strOfNums_bS] at hstr
      have hpost : ∀ v' : Value, Bs w1 v' (bs.drop k) → (∀ a n c, v' = .slice a n c → n ≤ c) → (∀ b, v'.ownBlock = some b → (Value.slice a ln c).ownBlock = some b) →
          TK (w1.setCell ⟨g, 0, none⟩ v') g TS (bs.drop k) false ∧ Fr TS w (w1.setCell ⟨g, 0, none⟩ v') := fun v' hb hc ho => by
        have hF0 : Fr (fun b => b = g) w1 (w1.setCell ⟨g, 0, none⟩ v') := (Fr.refl (fun b => b = g) w1).setCell (p := ⟨g, 0, none⟩) (fun _ => rfl) _
        have h4 := HK4.out
        refine ⟨⟨⟨v', obj_set HK1.out 0 v', hb.keep hF0 (fun b e => (h4 b (ho b e)).2), hc, fun b e => h4 b (ho b e)⟩, HK5.out, fun b e => ?_⟩, HF.out.trans' hF0 (fun b _ e => e ▸ HK5.out)⟩
        have := HK6.out b e; have := hF0.size; omega
      have HPOST := Lib.hid hpost
      obtain ⟨sv, hsv⟩ : ∃ sv, bS (bs.take k) = sv := ⟨_, rfl⟩
      rw [hsv] at hstr hT2
      clear hK hF k1 k2 k3 k4 k5 k6 hln hpost hsv h1
      go_wp2_with (go_at_call 66; refine (cMay w1 g TS bs false HK.out).mono ?_; rintro e w2 ⟨rfl, rfl⟩)
      · have hck : c = k := by assumption
        have hlk : ln = k := by omega
        go_ret
        rw [hT2.out]
        refine ⟨rfl, HPOST.out _ ?_ ?_ ?_⟩
        · have e0 : bs.drop k = [] := List.drop_eq_nil_of_le (by rw [HLN.out]; omega)
          rw [e0, show ln - k = 0 by omega]
          exact Bs.none' _ _ _
        · rintro a' n' c' e
          injection e with _ e2 e3
          omega
        · intro b e
          cases a with
          | none => cases e
          | some ad => exact e
      · go_ret
        rw [hT2.out]
        refine ⟨rfl, HPOST.out _ (HK2.out.drop HLN.out (by omega)) ?_ ?_⟩
        · rintro a' n' c' e
          injection e with _ e2 e3
          omega
        · intro b e
          cases a with
          | none => cases e
          | some ad =>
            have hb : (ad.add k).block = ad.block := by unfold Addr.add; split <;> rfl
            simp only [Option.map, Value.ownBlock, hb] at e ⊢
            exact e
end Go.Proofs.YtefjdcghdcbojaaGreat

namespace Go.Proofs.YtefjdcghdcbojaaGreat
open Go.RowKit Go.Maps
theorem ftkT_len (t : Tst) {m : Int} (hm : 0 ≤ m) : ((tkT t m).1.length : Int) ≤ m := by
  have h := tk_in t (a := 0) (b := m) (Int.le_refl _) hm
  unfold tkT
  dsimp only
  split <;> (try split) <;> simp [bS, List.length_take] <;> omega
/-- What Take reads: one item; k items; a list. -/
def it1 (s : Tst × Its) : Tst × Its := ((tk (tkT s.1 16).2 1 1099511627776).2, s.2 ++ [((tkT s.1 16).1, (tk (tkT s.1 16).2 1 1099511627776).1)])
def itG (t : Tst) : Nat → Tst × Its
  | 0 => (t, [])
  | k + 1 => it1 (itG t k)
def itemsT (t : Tst) : Its × Tst :=
  let r := itG (tk t 0 16).2 (tk t 0 16).1.toNat
  if mayL r.2 = true then (r.2, r.1) else ([], (r.1.1, true))
theorem itG_len (t : Tst) : ∀ k, (itG t k).2.length = k
  | 0 => rfl
  | k + 1 => by show (it1 (itG t k)).2.length = k + 1; unfold it1; simp [itG_len t k]
theorem itG_ok (t : Tst) : ∀ k, ∀ p ∈ (itG t k).2, okS p.1 ∧ okI p.2
  | 0, p, h => by simp [itG] at h
  | k + 1, p, h => by
    have h : p ∈ (it1 (itG t k)).2 := h
    unfold it1 at h
    rcases List.mem_append.1 h with h | h
    · exact itG_ok t k p h
    · simp only [List.mem_cons, List.not_mem_nil, or_false] at h
      subst h
      have h1 := ftkT_len (itG t k).1 (m := 16) (by omega)
      have h2 := tk_in1 (tkT (itG t k).1 16).2 (b := 1099511627776) (by omega)
      exact ⟨by unfold okS maxLen; dsimp only; omega, by unfold okI; dsimp only; omega⟩
theorem tk_none (t : Tst) : (tk t 1 0).2 = (t.1, true) := by
  unfold tk numT
  dsimp only
  split
  · rfl
  · split
    · rw [if_pos (by omega)]
    · rfl
theorem itCs_snoc (L : Its) (p : Str × Int) : itCs (L ++ [p]) = itCs L ++ [vS p.1, .int .i64 p.2] := by rw [itCs_app]; rfl
theorem iFault (w : World) (g : Nat) (TS : Nat → Prop) (t : Tst) (h : TK w g TS t.1 t.2) : Calls Tryz.prog 71 #[.pointer (some ⟨g, 0, none⟩)] w fun e w' => e = .returned (.slice none 0 0) ∧ TK w' g TS t.1 true ∧ Fr TS w w' := by
  have hx := Lib.hid (xTk w g TS t 1 0 h)
  rw [tk_none] at hx
  clear h
  go_enter Tryz.func71, Tryz.ntmps71
  go_wp2_with (go_at_call 21; refine hx.out.mono ?_; rintro e w1 ⟨rfl, h1, h2⟩; have H1 := Lib.hid h1; have H2 := Lib.hid h2; clear h1 h2)
  go_ret
  exact ⟨rfl, H1.out, H2.out⟩
set_option maxRecDepth 100000 in
set_option maxHeartbeats 8000000 in
theorem iTakeX (w : World) (g : Nat) (TS : Nat → Prop) (t : Tst) (h : TK w g TS t.1 t.2) : Calls Tryz.prog 22 #[.pointer (some ⟨g, 0, none⟩)] w fun e w' =>
    ∃ v, e = .returned v ∧ Il w' v (itemsT t).1 ∧ (∀ b, v.ownBlock = some b → w.heap.size ≤ b) ∧ TK w' g TS (itemsT t).2.1 (itemsT t).2.2 ∧ Fr TS w w' := by
  obtain ⟨i0, hi', hz0, hz1, hz2⟩ := info_parts infoItem
  have hx := Lib.hid (xTk w g TS t 0 16 h)
  have hqi := tk_in t (a := 0) (b := 16) (by omega) (by omega)
  obtain ⟨q, hq⟩ : ∃ q, tk t 0 16 = q := ⟨_, rfl⟩
  have hit : Hid (itemsT t = if mayL (itG q.2 q.1.toNat).2 = true then ((itG q.2 q.1.toNat).2, (itG q.2 q.1.toNat).1) else ([], ((itG q.2 q.1.toNat).1.1, true))) := Lib.hid (by unfold itemsT; rw [hq])
  rw [hq] at hx hqi
  obtain ⟨q1, q2⟩ := q
  obtain ⟨N, rfl⟩ : ∃ N : Nat, q1 = N := ⟨q1.toNat, by dsimp only at hqi; omega⟩
  dsimp only at hx hqi hit
  rw [Int.toNat_natCast] at hit
  have hN : N ≤ 16 := by omega
  obtain ⟨n0, hn0⟩ : ∃ n0, w.heap.size = n0 := ⟨_, rfl⟩
  have HS := Lib.hid hn0
  have HLT := Lib.hid h.lt
  clear h hq hqi
  go_enter Tryz.func22, Tryz.ntmps22
  go_wp2_with (go_at_call 21; refine hx.out.mono ?_; rintro e w1 ⟨rfl, h1, h2⟩; have H1 := Lib.hid h1; have H2 := Lib.hid h2; clear h1 h2)
  go_loopw [3, 7] (fun vo vi wr => ∃ (k : Nat), k ≤ N ∧ vi = .int .i64 k ∧ TK wr g TS (itG q2 k).1.1 (itG q2 k).1.2 ∧ wr.ownsRow n0 118 2 vo k (itCs (itG q2 k).2) ∧ Fr TS w wr) (fun _ vi _ => N - (intOf vi).toNat)
  case atStart => exact ⟨0, Nat.zero_le _, rfl, H1.out, World.ownsRow_nil _ _ _ _, H2.out⟩
  case round =>
    obtain ⟨k, hk, rfl, hT, hO, hF⟩ := hrel
    have HT := Lib.hid hT; have HO := Lib.hid hO; have HF := Lib.hid hF
    obtain ⟨oa, oc, rfl⟩ := row_sl hO
    by_cases hlt : k < N
    · have hkI : (k : Int) < N := by omega
      have hstep : Hid (itG q2 (k + 1) = it1 (itG q2 k)) := Lib.hid rfl
      have HLEN := Lib.hid (itG_len q2 k)
      obtain ⟨S, hSS⟩ : ∃ S, itG q2 k = S := ⟨_, rfl⟩
      rw [hSS] at hstep HT HO HLEN
      obtain ⟨t0, its⟩ := S
      have hTx := Lib.hid (cTText wr g TS t0 16 HT.out (by omega))
      obtain ⟨T1, hT1⟩ : ∃ T, tkT t0 16 = T := ⟨_, rfl⟩
      unfold it1 at hstep
      dsimp only at hstep hTx HT HO HLEN
      rw [hT1] at hTx hstep
      obtain ⟨gd, t1⟩ := T1
      dsimp only at hTx hstep
      have hNx := Lib.hid (fun W (h : TK W g TS t1.1 t1.2) => xTk W g TS t1 1 1099511627776 h)
      obtain ⟨T2, hT2⟩ : ∃ T, tk t1 1 1099511627776 = T := ⟨_, rfl⟩
      rw [hT2] at hNx hstep
      obtain ⟨nn, t2⟩ := T2
      dsimp only at hNx hstep
      have HLT2 := Lib.hid (show ∀ b, TS b → b < n0 by rw [← HS.out]; exact HLT.out)
      clear hT hO hF hSS hT1 hT2
      go_wp2_with (first
        | (go_at_call 69; refine hTx.out.mono ?_; rintro e w4 ⟨rfl, ht4, hf4⟩; have HT4 := Lib.hid ht4; have HF4 := Lib.hid (HF.out.trans hf4); have HO4 := Lib.hid (hf4.row HO.out (fun b hb e => by have := (HO.out.lt b hb).1; have := HLT2.out b e; omega)); clear ht4 hf4)
        | (go_at_call 21; refine (hNx.out _ HT4.out).mono ?_; rintro e w5 ⟨rfl, ht5, hf5⟩; have HT5 := Lib.hid ht5; have HF5 := Lib.hid (HF4.out.trans hf5); have HO5 := Lib.hid (hf5.row HO4.out (fun b hb e => by have := (HO4.out.lt b hb).1; have := HLT2.out b e; omega)); clear ht5 hf5)
        | (at_builtin; refine wpList_append_src rfl _ _ 57 rfl n0 118 i0 (.agg #[.string ⟨#[]⟩, .int .i64 0]) 24 Tryz.underlying57 hi' hz0 hz1 hz2 rfl (by decide) (Value.slice oa k oc) k (itCs its) rfl (((Fr.refl (fun _ => False) w5).alloc _).row HO5.out (fun _ _ e => e)) 1 rfl (rd_obj (cs := [vS gd, .int .i64 nn]) (heap_new _ _) rfl) (by intro u hu; simp only [List.mem_cons, List.not_mem_nil, or_false] at hu; rcases hu with rfl | rfl <;> rfl) (by unfold maxLen; omega) (by omega) (by have := HS.out; have := HF5.out.size; simp; omega) ?_; intro v6 w6 hown6 hgrow6 hloc6; have HO6 := Lib.hid hown6; have hfr6 : Fr (fun c => n0 ≤ c) w5 w6 := (((Fr.refl (fun c => n0 ≤ c) w5).alloc _).trans' (Fr.grown (S := fun c => n0 ≤ c) hgrow6 (fun r hr _ => (HO5.out.lt r hr).1)) (fun _ _ e => e)); have HFR6 := Lib.hid hfr6; clear hown6 hgrow6 hloc6 hfr6))
      go_roundw
      case rel =>
        refine ⟨k + 1, by omega, by go_num, ?_, ?_, ?_⟩
        · rw [hstep.out]; exact HT5.out.fr HFR6.out (fun b hb e => by have := HLT2.out b hb; omega)
        · rw [hstep.out]; dsimp only; rw [itCs_snoc]; exact HO6.out
        · exact HF5.out.trans' HFR6.out (fun b hb e => by have := HS.out; have e : n0 ≤ b := e; omega)
      case measure => simp [intOf]; omega
    · obtain rfl : k = N := by omega
      have hkI : ¬ (k : Int) < k := by omega
      have HLEN := Lib.hid (itG_len q2 k)
      have HOKS := Lib.hid (itG_ok q2 k)
      obtain ⟨S, hSS⟩ : ∃ S, itG q2 k = S := ⟨_, rfl⟩
      rw [hSS] at hit HT HO HLEN HOKS
      obtain ⟨t0, its⟩ := S
      dsimp only at hit HT HO HLEN HOKS
      have HO' := HO.out
      rw [← HLEN.out] at HO'
      have HIL := Lib.hid (Il.own HO' HOKS.out)
      have hM := Lib.hid (iMay wr _ its HIL.out.1)
      rw [HLEN.out] at hM HIL
      clear hT hO hF hSS HO'
      cases hm : mayL its with
      | true =>
        have hr : Hid (itemsT t = (its, t0)) := Lib.hid (by rw [hit.out, if_pos hm])
        rw [hm] at hM
        clear hit hm
        go_wp2_with (go_at_call 70; refine hM.out.mono ?_; rintro e w2 ⟨rfl, hf2⟩; have HF2 := Lib.hid hf2; clear hf2)
        go_ret
        rw [hr.out]
        exact ⟨_, rfl, HIL.out.1.fr HF2.out (fun _ e => e.elim), fun b hb => by have := (HIL.out.2 b hb).1; have := HS.out; omega, HT.out.fr HF2.out (fun _ _ e => e), HF.out.trans' HF2.out (fun _ _ e => e.elim)⟩
      | false =>
        have hr : Hid (itemsT t = ([], (t0.1, true))) := Lib.hid (by rw [hit.out, if_neg (by rw [hm]; simp)])
        rw [hm] at hM
        clear hit hm
        go_wp2_with (first
          | (go_at_call 70; refine hM.out.mono ?_; rintro e w2 ⟨rfl, hf2⟩; have HF2 := Lib.hid hf2; clear hf2)
          | (go_at_call 71; refine (iFault _ g TS t0 (HT.out.fr HF2.out (fun _ _ e => e))).mono ?_; rintro e w3 ⟨rfl, ht3, hf3⟩; have HT3 := Lib.hid ht3; have HF3 := Lib.hid hf3; clear ht3 hf3))
        go_ret
        rw [hr.out]
        exact ⟨.slice none 0 0, rfl, ⟨by simp, none, 0, rfl, fun i p hp => by simp at hp⟩, (by intro b hb; cases hb), HT3.out, (HF.out.trans' HF2.out (fun _ _ e => e.elim)).trans HF3.out⟩
end Go.Proofs.YtefjdcghdcbojaaGreat

namespace Go.Proofs.YtefjdcghdcbojaaGreat
open Go.RowKit
/-- A place: its bin, its good, how many. -/
structure PV where
  b : Int
  g : Str
  n : Int
abbrev PV.cs (p : PV) : List Value := [.int .i64 p.b, vS p.g, .int .i64 p.n]
/-- An element: what is compared, where it stood. -/
abbrev EP := PV × Nat
def flP (xs : List EP) : List Value := xs.flatMap fun p => p.1.cs
theorem flP_app (xs ys : List EP) : flP (xs ++ ys) = flP xs ++ flP ys := by simp [flP]
theorem flP_len (xs : List EP) : (flP xs).length = xs.length * 3 := by
  induction xs with
  | nil => rfl
  | cons x r ih => simp [flP] at ih ⊢; omega
/-- Block b begins with these. -/
def RwP (W : World) (b : Nat) (xs : List EP) : Prop := ∃ rest : List Value, W.heap[b]? = some (.cells (flP xs ++ rest).toArray 47)
theorem RwP.cells {W : World} {b : Nat} {xs : List EP} (h : RwP W b xs) {i : Nat} {p : EP} (hp : xs[i]? = some p) : W.cell? ⟨b, i * 3, none⟩ = some (.int .i64 p.1.b) ∧ W.cell? ⟨b, i * 3 + 1, none⟩ = some (vS p.1.g) ∧ W.cell? ⟨b, i * 3 + 2, none⟩ = some (.int .i64 p.1.n) := by
  obtain ⟨rest, h⟩ := h
  have hi := (List.getElem?_eq_some_iff.1 hp).1
  have e : xs = xs.take i ++ p :: xs.drop (i + 1) := by
    rw [← (List.getElem?_eq_some_iff.1 hp).2, ← List.drop_eq_getElem_cons hi, List.take_append_drop]
  have hl : (flP (xs.take i)).length = i * 3 := by rw [flP_len]; simp; omega
  have key : ∀ k, k < 3 → (flP xs ++ rest)[i * 3 + k]? = p.1.cs[k]? := fun k hk => by
    rw [e, flP_app, List.append_assoc, List.getElem?_append_right (by rw [hl]; omega), hl, show i * 3 + k - i * 3 = k by omega]
    show (p.1.cs ++ flP (xs.drop (i + 1)) ++ rest)[k]? = _
    rw [List.append_assoc, List.getElem?_append_left (by simp; omega)]
  exact ⟨cell_obj h _ _ (by rw [List.getElem?_toArray]; exact key 0 (by omega)), cell_obj h _ _ (by rw [List.getElem?_toArray]; exact key 1 (by omega)), cell_obj h _ _ (by rw [List.getElem?_toArray]; exact key 2 (by omega))⟩
theorem RwP.frz {W : World} {b : Nat} {xs : List EP} (h : RwP W b xs) (i : Nat) : W.frozen? ⟨b, i, none⟩ = false := by
  obtain ⟨rest, h⟩ := h
  exact obj_frozen h i
/-- Three stores: an element is set. -/
abbrev set3 (W : World) (b i : Nat) (p : PV) : World := ((W.setCell ⟨b, i * 3, none⟩ (.int .i64 p.b)).setCell ⟨b, i * 3 + 1, none⟩ (vS p.g)).setCell ⟨b, i * 3 + 2, none⟩ (.int .i64 p.n)
theorem RwP.set {W : World} {b : Nat} {A B : List EP} {x p : EP} (h : RwP W b (A ++ x :: B)) : RwP (set3 W b A.length p.1) b (A ++ p :: B) := by
  obtain ⟨rest, h⟩ := h
  refine ⟨rest, ?_⟩
  have hl := flP_len A
  have e1 : flP (A ++ x :: B) ++ rest = flP A ++ (.int .i64 x.1.b :: vS x.1.g :: .int .i64 x.1.n :: (flP B ++ rest)) := by simp [flP]
  have e2 : flP (A ++ p :: B) ++ rest = flP A ++ (.int .i64 p.1.b :: vS p.1.g :: .int .i64 p.1.n :: (flP B ++ rest)) := by simp [flP]
  rw [e1] at h
  rw [e2]
  rw [obj_set (obj_set (obj_set h (A.length * 3) _) (A.length * 3 + 1) _) (A.length * 3 + 2) _]
  congr 2
  rw [List.setIfInBounds_toArray, List.setIfInBounds_toArray, List.setIfInBounds_toArray]
  congr 1
  rw [List.set_append_right _ _ (by omega), List.set_append_right _ _ (by omega), List.set_append_right _ _ (by omega), hl]
  rw [show A.length * 3 - A.length * 3 = 0 by omega, show A.length * 3 + 1 - A.length * 3 = 1 by omega, show A.length * 3 + 2 - A.length * 3 = 2 by omega]
  rfl
theorem RwP.fr {S : Nat → Prop} {W W' : World} {b : Nat} {xs : List EP} (h : RwP W b xs) (hf : Fr S W W') (hS : ¬ S b) : RwP W' b xs := by
  obtain ⟨rest, h⟩ := h
  exact ⟨rest, hf.at_ h hS⟩
theorem RwP.swap {W : World} {b : Nat} {A B C : List EP} {x y : EP} (h : RwP W b (A ++ x :: (B ++ y :: C))) {i j : Nat} (hi : i = A.length) (hj : j = A.length + 1 + B.length) :
    RwP (set3 (set3 W b i y.1) b j x.1) b (A ++ y :: (B ++ x :: C)) := by
  subst hi
  have h1 := h.set (p := y)
  have h2 : RwP (set3 W b A.length y.1) b ((A ++ y :: B) ++ y :: C) := by simpa using h1
  have h3 := h2.set (p := x)
  have e : (A ++ y :: B).length = j := by rw [hj]; simp; omega
  rw [e] at h3
  simpa using h3
theorem RwP.swap' {W : World} {b : Nat} {A B C : List EP} {x y : EP} (h : RwP W b (A ++ x :: (B ++ y :: C))) {i j : Nat} (hi : i = A.length) (hj : j = A.length + 1 + B.length) :
    RwP (set3 (set3 W b j x.1) b i y.1) b (A ++ y :: (B ++ x :: C)) := by
  subst hi
  have h2 : RwP W b ((A ++ x :: B) ++ y :: C) := by simpa using h
  have h3 := h2.set (p := x)
  have e : (A ++ x :: B).length = j := by rw [hj]; simp; omega
  rw [e] at h3
  have h4 : RwP (set3 W b j x.1) b (A ++ x :: (B ++ x :: C)) := by simpa using h3
  exact h4.set (p := y)
theorem at_leftP {A B : List EP} {x : EP} : (A ++ x :: B)[A.length]? = some x := by
  rw [List.getElem?_append_right (Nat.le_refl _), Nat.sub_self]; rfl
theorem at_rightP {A B C : List EP} {x y : EP} : (A ++ x :: (B ++ y :: C))[A.length + 1 + B.length]? = some y := by
  rw [List.getElem?_append_right (by omega)]
  have e2 : A.length + 1 + B.length - A.length = B.length + 1 := by omega
  rw [e2, List.getElem?_cons_succ]
  exact at_leftP
theorem fr_set3 {w W : World} {b i : Nat} {p : PV} (h : Fr (fun c => c = b) w W) : Fr (fun c => c = b) w (set3 W b i p) :=
  ((h.setCell (p := ⟨b, i * 3, none⟩) (fun _ => rfl) _).setCell (p := ⟨b, i * 3 + 1, none⟩) (fun _ => rfl) _).setCell (p := ⟨b, i * 3 + 2, none⟩) (fun _ => rfl) _
theorem cell_ne {W : World} {b i j : Nat} {u v : Value} (h : W.cell? ⟨b, j, none⟩ = some v) (hne : i ≠ j) : (W.setCell ⟨b, i, none⟩ u).cell? ⟨b, j, none⟩ = some v := by
  exact (World.cell?_setCell_other W u (a := ⟨b, i, none⟩) (b := ⟨b, j, none⟩) (fun e => hne (by injection e))).trans h
theorem RwP.after {W : World} {b : Nat} {xs : List EP} (h : RwP W b xs) {i j : Nat} (hne : i ≠ j) {p : PV} {v0 v1 v2 : Value} (c0 : W.cell? ⟨b, j * 3, none⟩ = some v0) (c1 : W.cell? ⟨b, j * 3 + 1, none⟩ = some v1) (c2 : W.cell? ⟨b, j * 3 + 2, none⟩ = some v2) :
    ((W.frozen? ⟨b, i * 3, none⟩ = false ∧ W.frozen? ⟨b, i * 3 + 1, none⟩ = false ∧ W.frozen? ⟨b, i * 3 + 2, none⟩ = false ∧ W.frozen? ⟨b, j * 3, none⟩ = false ∧ W.frozen? ⟨b, j * 3 + 1, none⟩ = false ∧ W.frozen? ⟨b, j * 3 + 2, none⟩ = false) ∧
    (set3 W b i p).cell? ⟨b, j * 3, none⟩ = some v0 ∧ (set3 W b i p).cell? ⟨b, j * 3 + 1, none⟩ = some v1 ∧ (set3 W b i p).cell? ⟨b, j * 3 + 2, none⟩ = some v2) :=
  ⟨⟨h.frz _, h.frz _, h.frz _, h.frz _, h.frz _, h.frz _⟩, cell_ne (cell_ne (cell_ne c0 (by omega)) (by omega)) (by omega), cell_ne (cell_ne (cell_ne c1 (by omega)) (by omega)) (by omega), cell_ne (cell_ne (cell_ne c2 (by omega)) (by omega)) (by omega)⟩
/-- A range is changed with another, i done. -/
theorem swp_stepP {P U M V S : List EP} {i : Nat} {x y : EP} (hx : U[i]? = some x) (hy : V[i]? = some y) :
    P ++ (V.take i ++ (U.drop i ++ (M ++ (U.take i ++ (V.drop i ++ S))))) = (P ++ V.take i) ++ x :: ((U.drop (i + 1) ++ (M ++ U.take i)) ++ y :: (V.drop (i + 1) ++ S)) ∧
    P ++ (V.take (i + 1) ++ (U.drop (i + 1) ++ (M ++ (U.take (i + 1) ++ (V.drop (i + 1) ++ S))))) = (P ++ V.take i) ++ y :: ((U.drop (i + 1) ++ (M ++ U.take i)) ++ x :: (V.drop (i + 1) ++ S)) := by
  have eu : U.drop i = x :: U.drop (i + 1) := by
    rw [List.drop_eq_getElem_cons (List.getElem?_eq_some_iff.1 hx).1, (List.getElem?_eq_some_iff.1 hx).2]
  have ev : V.drop i = y :: V.drop (i + 1) := by
    rw [List.drop_eq_getElem_cons (List.getElem?_eq_some_iff.1 hy).1, (List.getElem?_eq_some_iff.1 hy).2]
  constructor
  · rw [eu, ev]; simp
  · rw [List.take_add_one, List.take_add_one, hx, hy]; simp
set_option maxRecDepth 100000 in
set_option maxHeartbeats 4000000 in
theorem swapP (w : World) (b n cap pa pb k : Nat) (fv : Value) (P U M V S : List EP) (h : RwP w b (P ++ (U ++ (M ++ (V ++ S))))) (hn : n = (P ++ (U ++ (M ++ (V ++ S)))).length) (hm : n ≤ 1000000000000) (ha : pa = P.length) (hb : pb = pa + U.length + M.length) (hk : k = U.length) (hv : V.length = k) :
    Calls Tryz.prog 149 #[.slice (some ⟨b, 0, none⟩) n cap, .int .i64 pa, .int .i64 pb, .int .i64 k, fv] w fun e w' => e = .returned (.tuple #[]) ∧ RwP w' b (P ++ (V ++ (M ++ (U ++ S)))) ∧ Fr (fun c => c = b) w w' := by
  have hlen : n = pa + k + M.length + k + S.length := by simp at hn; omega
  have HN := Lib.hid hlen; have H0 := Lib.hid h
  have HA := Lib.hid ha; have HB := Lib.hid hb; have HK := Lib.hid hk; have HV := Lib.hid hv
  have i1 : (n : Int) ≤ 1000000000000 := by omega
  have i2 : (pa : Int) + k ≤ n := by omega
  have i3 : (pb : Int) + k ≤ n := by omega
  clear h hn hm ha hb hk hv hlen
  go_enter Tryz.func149, Tryz.ntmps149
  go_wp2_with fail
  go_loopw [10] (fun v wr => ∃ i : Nat, i ≤ k ∧ v = .int .i64 i ∧ RwP wr b (P ++ (V.take i ++ (U.drop i ++ (M ++ (U.take i ++ (V.drop i ++ S)))))) ∧ Fr (fun c => c = b) w wr) (fun v _ => k - (intOf v).toNat)
  case atStart => exact ⟨0, Nat.zero_le _, rfl, by simpa using H0.out, Fr.refl _ _⟩
  case round =>
    obtain ⟨i, hi, rfl, hr, hf⟩ := hrel
    by_cases hlt : i < k
    · obtain ⟨x, hx⟩ : ∃ x, U[i]? = some x := ⟨U[i]'(by have := HK.out; omega), List.getElem?_eq_getElem _⟩
      obtain ⟨y, hy⟩ : ∃ y, V[i]? = some y := ⟨V[i]'(by have := HV.out; omega), List.getElem?_eq_getElem _⟩
      obtain ⟨s1, s2⟩ := swp_stepP (P := P) (M := M) (S := S) hx hy
      rw [s1] at hr
      have e1 : pa + i = (P ++ V.take i).length := by have := HA.out; have := HV.out; simp; omega
      have e2 : pb + i = (P ++ V.take i).length + 1 + (U.drop (i + 1) ++ (M ++ U.take i)).length := by have := HA.out; have := HB.out; have := HK.out; have := HV.out; simp; omega
      obtain ⟨c10, c11, c12⟩ := hr.cells (i := pa + i) (by rw [e1]; exact at_leftP)
      obtain ⟨c20, c21, c22⟩ := hr.cells (i := pb + i) (by rw [e2]; exact at_rightP)
      have hsw := hr.swap (i := pa + i) (j := pb + i) e1 e2
      rw [← s2] at hsw
      have hne : pa + i ≠ pb + i := by have := HB.out; have := HK.out; omega
      have hltI : (i : Int) < k := by omega
      have HSW := Lib.hid hsw; have HF := Lib.hid hf; have HNE := Lib.hid hne
      obtain ⟨⟨f10, f11, f12, f20, f21, f22⟩, d0, d1, d2⟩ := hr.after hne (p := y.1) c20 c21 c22
      clear hr hf hsw e1 e2 s1 s2 hx hy hne
      obtain ⟨ja, hja⟩ : ∃ j, pa + i = j := ⟨_, rfl⟩
      obtain ⟨jb, hjb⟩ : ∃ j, pb + i = j := ⟨_, rfl⟩
      rw [hja] at c10 c11 c12 f10 f11 f12 HSW HNE d0 d1 d2
      rw [hjb] at c20 c21 c22 f20 f21 f22 HSW HNE d0 d1 d2
      have ta : ((pa : Int) + i).toNat = ja := by omega
      have tb : ((pb : Int) + i).toNat = jb := by omega
      have za : (0 : Int) ≤ (pa : Int) + i := by omega
      have zb : (0 : Int) ≤ (pb : Int) + i := by omega
      have la : (pa : Int) + i < n := by omega
      have lb : (pb : Int) + i < n := by omega
      have ra : IntKind.i64.wrap ((pa : Int) + i) = (pa : Int) + i := IntWalk.i64_in _ (by omega)
      have rb : IntKind.i64.wrap ((pb : Int) + i) = (pb : Int) + i := IntWalk.i64_in _ (by omega)
      clear hja hjb
      go_wp2_with fail
      go_region
      have hfs : Fr (fun c => c = b) wr (set3 (set3 wr b ja y.1) b jb x.1) := fr_set3 (fr_set3 (Fr.refl _ wr))
      have HFS := Lib.hid (HF.out.trans hfs)
      clear c10 c11 c12 c20 c21 c22 f10 f11 f12 f20 f21 f22 d0 d1 d2 hfs
      go_wp2_with fail
      go_roundw
      case rel => exact ⟨i + 1, by omega, by go_num, HSW.out.fr (S := fun _ => False) (Fr.refl _ _).drew (fun e => e), HFS.out.drew⟩
      case measure => simp [intOf]; omega
    · obtain rfl : i = k := by omega
      rw [List.take_of_length_le (by have := HV.out; have := HK.out; omega), List.take_of_length_le (by have := HV.out; have := HK.out; omega), List.drop_of_length_le (by have := HV.out; have := HK.out; omega), List.drop_of_length_le (by have := HV.out; have := HK.out; omega), List.nil_append, List.nil_append] at hr
      have HR := Lib.hid hr; have HF := Lib.hid hf
      have hltI : ¬ (i : Int) < i := by omega
      clear hr hf
      go_wp2_with fail
      go_end0
      exact ⟨rfl, HR.out, HF.out⟩
theorem swapXP (w : World) (b n cap : Nat) (fv : Value) (P U M V S : List EP) {ia ib ik : Int} (h : RwP w b (P ++ (U ++ (M ++ (V ++ S))))) (hn : n = (P ++ (U ++ (M ++ (V ++ S)))).length) (hm : n ≤ 1000000000000) (ha : ia = (P.length : Int)) (hb : ib = ((P.length + U.length + M.length : Nat) : Int)) (hk : ik = (U.length : Int)) (hv : V.length = U.length) :
    Calls Tryz.prog 149 #[.slice (some ⟨b, 0, none⟩) n cap, .int .i64 ia, .int .i64 ib, .int .i64 ik, fv] w fun e w' => e = .returned (.tuple #[]) ∧ RwP w' b (P ++ (V ++ (M ++ (U ++ S)))) ∧ Fr (fun c => c = b) w w' := by
  subst ha hb hk
  exact swapP w b n cap P.length (P.length + U.length + M.length) U.length fv P U M V S h hn hm rfl rfl rfl hv
set_option maxRecDepth 100000 in
set_option maxHeartbeats 4000000 in
theorem rotP (w : World) (b n cap pa pm pb : Nat) (fv : Value) (P A B S : List EP) (h : RwP w b (P ++ (A ++ (B ++ S)))) (hn : n = (P ++ (A ++ (B ++ S))).length) (hm : n ≤ 1000000000000) (ha : pa = P.length) (hpm : pm = pa + A.length) (hb : pb = pm + B.length) (h1 : 0 < A.length) (h2 : 0 < B.length) :
    Calls Tryz.prog 146 #[.slice (some ⟨b, 0, none⟩) n cap, .int .i64 pa, .int .i64 pm, .int .i64 pb, fv] w fun e w' => e = .returned (.tuple #[]) ∧ RwP w' b (P ++ (B ++ (A ++ S))) ∧ Fr (fun c => c = b) w w' := by
  have hlen : n = pa + A.length + B.length + S.length := by simp at hn; omega
  have HN := Lib.hid hn; have HM := Lib.hid hm; have H0 := Lib.hid h; have HA := Lib.hid ha
  obtain ⟨la, hla⟩ : ∃ la, A.length = la := ⟨_, rfl⟩
  obtain ⟨lb, hlb⟩ : ∃ lb, B.length = lb := ⟨_, rfl⟩
  have HPM := Lib.hid hpm; have HPB := Lib.hid hb
  rw [hla] at hlen h1 hpm HPM
  rw [hlb] at hlen h2 hb HPB
  have HLA := Lib.hid hla; have HLB := Lib.hid hlb; have HLEN := Lib.hid hlen
  have i1 : (n : Int) ≤ 1000000000000 := by omega
  have i2 : (pm : Int) ≤ pa + la := by omega
  have i3 : (pa : Int) + la ≤ pm := by omega
  have i4 : (pb : Int) ≤ pm + lb := by omega
  have i5 : (pm : Int) + lb ≤ pb := by omega
  have i6 : (pb : Int) ≤ n := by omega
  clear h hn hm ha hpm hb hla hlb hlen
  go_enter Tryz.func146, Tryz.ntmps146
  go_wp2_with fail
  go_loopw [10, 11] (fun vi vj wr => ∃ (i j : Nat) (P' X Y S' : List EP), vi = .int .i64 i ∧ vj = .int .i64 j ∧ 0 < i ∧ 0 < j ∧ X.length = i ∧ Y.length = j ∧ P'.length + i = pm ∧ pm + j ≤ n ∧ RwP wr b (P' ++ (X ++ (Y ++ S'))) ∧ P' ++ (Y ++ (X ++ S')) = P ++ (B ++ (A ++ S)) ∧ n = (P' ++ (X ++ (Y ++ S'))).length ∧ Fr (fun c => c = b) w wr) (fun vi vj _ => (intOf vi).toNat + (intOf vj).toNat)
  case atStart => exact ⟨la, lb, P, A, B, S, by congr 1; omega, by congr 1; omega, h1, h2, HLA.out, HLB.out, by have := HA.out; omega, by omega, H0.out, rfl, HN.out, Fr.refl _ _⟩
  case round =>
    obtain ⟨i, j, P', X, Y, S', rfl, rfl, hi0, hj0, hX, hY, hP, hjn, hr, hEq, hN, hf⟩ := hrel
    have HX := Lib.hid hX; have HY := Lib.hid hY; have HP := Lib.hid hP; have HEQ := Lib.hid hEq; have HN2 := Lib.hid hN; have HR := Lib.hid hr; have HF := Lib.hid hf
    have g1 : (i : Int) ≤ pm := by omega
    have g2 : (pm : Int) + j ≤ n := by omega
    have g3 : 0 < (i : Int) := by omega
    have g4 : 0 < (j : Int) := by omega
    obtain ⟨qa, hqa⟩ : ∃ q, pm - i = q := ⟨_, rfl⟩
    have q1 : ((qa : Nat) : Int) ≤ pm - i := by omega
    have q2 : (pm : Int) - i ≤ qa := by omega
    clear hX hY hP hEq hN hr hf hqa hjn
    rcases (by omega : i < j ∨ i = j ∨ j < i) with hlt | heq | hgt
    · obtain ⟨Y1, Y2, rfl, hl1, hl2⟩ := split_len Y (k := j - i) (by have := HY.out; omega)
      have hl3 : Y2.length = i := by have := HY.out; omega
      have HL1 := Lib.hid hl1; have HL3 := Lib.hid hl3
      clear hl1 hl2 hl3
      have hltI : (i : Int) < j := by omega
      go_wp2_with fail
      refine (swapXP wr b n cap fv P' X Y1 Y2 S' (by have := HR.out; rw [List.append_assoc] at this; exact this) (by have := HN2.out; simp at this ⊢; omega) HM.out (by have := HP.out; omega) (by have := HP.out; have := HX.out; have := HL1.out; omega) (by have := HX.out; omega) (by have := HX.out; have := HL3.out; omega)).mono ?_
      rintro e w3 ⟨rfl, hr3, hf3⟩
      have HR3 := Lib.hid hr3; have HF3 := Lib.hid (HF.out.trans hf3)
      clear hr3 hf3
      go_wp2_with fail
      go_roundw
      case rel => exact ⟨i, j - i, P', Y2, Y1, X ++ S', rfl, by congr 1; omega, by omega, by omega, HL3.out, HL1.out, HP.out, by omega, HR3.out, by rw [← HEQ.out]; simp, by have := HN2.out; simp at this ⊢; omega, HF3.out⟩
      case measure => simp [intOf]; omega
    · subst heq
      go_wp2_with fail
      refine (swapXP wr b n cap fv P' X [] Y S' HR.out HN2.out HM.out (by have := HP.out; omega) (by have := HP.out; have := HX.out; simp; omega) (by have := HX.out; omega) (by have := HX.out; have := HY.out; omega)).mono ?_
      rintro e w3 ⟨rfl, hr3, hf3⟩
      have HR3 := Lib.hid hr3; have HF3 := Lib.hid (HF.out.trans hf3)
      clear hr3 hf3
      go_wp2_with fail
      go_end0
      exact ⟨rfl, by have := HR3.out; rw [← HEQ.out]; exact this, HF3.out⟩
    · obtain ⟨X1, X2, rfl, hl1, hl2⟩ := split_len X (k := j) (by have := HX.out; omega)
      have hl3 : X2.length = i - j := by have := HX.out; omega
      have HL1 := Lib.hid hl1; have HL3 := Lib.hid hl3
      clear hl1 hl2 hl3
      have hltI : (j : Int) < i := by omega
      go_wp2_with fail
      refine (swapXP wr b n cap fv P' X1 X2 Y S' (by have := HR.out; rw [List.append_assoc] at this; exact this) (by have := HN2.out; simp at this ⊢; omega) HM.out (by have := HP.out; omega) (by have := HP.out; have := HL1.out; have := HL3.out; omega) (by have := HL1.out; omega) (by have := HL1.out; have := HY.out; omega)).mono ?_
      rintro e w3 ⟨rfl, hr3, hf3⟩
      have HR3 := Lib.hid hr3; have HF3 := Lib.hid (HF.out.trans hf3)
      clear hr3 hf3
      go_wp2_with fail
      go_roundw
      case rel => exact ⟨i - j, j, P' ++ Y, X2, X1, S', by congr 1; omega, rfl, by omega, by omega, HL3.out, HL1.out, by have := HP.out; have := HY.out; simp; omega, by omega, by have := HR3.out; rw [List.append_assoc]; exact this, by rw [← HEQ.out]; simp, by have := HN2.out; simp at this ⊢; omega, HF3.out⟩
      case measure => simp [intOf]; omega
end Go.Proofs.YtefjdcghdcbojaaGreat

namespace Go.Proofs.YtefjdcghdcbojaaGreat
open Go.RowKit Go.Maps
def pvC (p : PV) : Array Value := #[.int .i64 p.b, vS p.g, .int .i64 p.n]
def okPv (_ : World) (p : PV) : Prop := okI p.b ∧ okS p.g ∧ okI p.n
theorem okPvKeeps : Keeps okPv := fun _ _ _ _ h _ _ => h
set_option maxRecDepth 100000 in
set_option maxHeartbeats 4000000 in
theorem ixPlace (w : World) (v : Value) (L : List PV) (p : PV → Bool) (b0 : Nat) (h : Sq 3 pvC okPv w v L)
    (hf : ∀ (W : World) (i : Nat) (x : PV), L[i]? = some x → Fr (fun _ => False) w W → Calls Tryz.prog 110 #[.agg (pvC x), .pointer (some ⟨b0, 0, none⟩)] W fun e W' => e = .returned (.bool (p x)) ∧ Fr (fun _ => False) W W') :
    Calls Tryz.prog 123 #[v, .func (.func 110) #[] #[.pointer (some ⟨b0, 0, none⟩)]] w fun e w' => e = .returned (.int .i64 (idxOf p L)) ∧ Fr (fun _ => False) w w' := by
  obtain ⟨a, c, rfl⟩ := h.sl
  obtain ⟨N, hN⟩ : ∃ N, L.length = N := ⟨_, rfl⟩
  have hNb : (N : Int) ≤ 9223372036854775807 := by have := h.len; omega
  have HL := Lib.hid h; have HN := Lib.hid hN; have HF := Lib.hid hf
  rw [hN] at HL ⊢
  obtain ⟨R, hR⟩ : ∃ R, idxOf p L = R := ⟨_, rfl⟩
  have HR := Lib.hid hR
  rw [hR]
  clear h hN hf hR
  go_enter Tryz.func123, Tryz.ntmps123
  go_wp2_with fail
  go_loopw [5, 8] (fun _ i wr => ∃ j : Nat, j ≤ N ∧ i = .int .i64 j ∧ Fr (fun _ => False) w wr ∧ ∀ q x, q < j → L[q]? = some x → p x = false) (fun _ i _ => N - (intOf i).toNat)
  case atStart => exact ⟨0, Nat.zero_le _, rfl, Fr.refl _ _, fun q x hq => by omega⟩
  case round =>
    obtain ⟨j, hj, rfl, hfr, hno⟩ := hrel
    have HFR := Lib.hid hfr; have HNO := Lib.hid hno
    clear hno
    by_cases hlt : j < N
    · obtain ⟨x, hx⟩ : ∃ x, L[j]? = some x := ⟨L[j]'(by rw [HN.out]; exact hlt), List.getElem?_eq_getElem _⟩
      obtain ⟨ad, rfl, hok, z0, zs⟩ := (HL.out.fr0 okPvKeeps hfr).at_ hx
      have hC := HF.out wr j x hx hfr
      obtain ⟨b, hb⟩ : ∃ b, p x = b := ⟨_, rfl⟩
      rw [hb] at hC
      have HB := Lib.hid hb; have HX := Lib.hid hx
      have hjI : (j : Int) < N := by omega
      obtain ⟨X, hXX⟩ : ∃ X, X = x := ⟨_, rfl⟩
      rw [← hXX] at HB HX
      obtain ⟨pb, pg, pn⟩ := x
      clear hXX
      have x0 := z0 (.int .i64 pb) rfl
      have x1 := zs 0 (vS pg) rfl
      have x2 := zs 1 (.int .i64 pn) rfl
      dsimp only [Nat.zero_add, Nat.reduceAdd] at x0 x1 x2
      have hC' : Calls Tryz.prog 110 #[.agg #[.int .i64 pb, vS pg, .int .i64 pn], .pointer (some ⟨b0, 0, none⟩)] wr fun e W' => e = .returned (.bool b) ∧ Fr (fun _ => False) wr W' := hC
      have HC := Lib.hid hC'
      clear hC hC' hb hx hok z0 zs hfr
      cases b with
      | true =>
        have hres : Hid (R = (j : Int)) := Lib.hid (by rw [← HR.out]; exact idxOf_at HX.out HB.out HNO.out)
        go_wp2_with (go_at_call 110; refine HC.out.mono ?_; rintro e w1 ⟨rfl, hf1⟩; have HF1 := Lib.hid hf1; clear hf1)
        go_ret
        exact ⟨by rw [hres.out]; rfl, HFR.out.trans HF1.out⟩
      | false =>
        go_wp2_with (go_at_call 110; refine HC.out.mono ?_; rintro e w1 ⟨rfl, hf1⟩; have HF1 := Lib.hid hf1; clear hf1)
        go_roundw
        case rel =>
          refine ⟨j + 1, by omega, by go_num, HFR.out.trans HF1.out, fun q x hq hx => ?_⟩
          by_cases e : q = j
          · subst e
            have := HX.out
            rw [this] at hx
            injection hx with hx
            rw [← hx]
            exact HB.out
          · exact HNO.out q x (by omega) hx
        case measure => simp [intOf]; omega
    · obtain rfl : j = N := by omega
      have hres : Hid (R = -1) := Lib.hid (by rw [← HR.out]; exact idxOf_no (fun q x hx => HNO.out q x (by have := (List.getElem?_eq_some_iff.1 hx).1; have := HN.out; omega) hx))
      clear hfr
      go_wp2_with fail
      go_ret
      exact ⟨by rw [hres.out]; rfl, HFR.out⟩
set_option maxRecDepth 100000 in
set_option maxHeartbeats 4000000 in
theorem dfPlace (w : World) (base : Nat) (v : Value) (L : List PV) (p : PV → Bool) (b0 : Nat) (h : w.ownsRow base 47 3 v L.length (flat pvC L)) (hL : L.length ≤ 1000000000000000) (hok : ∀ x ∈ L, okPv w x)
    (hf : ∀ (W : World) (i : Nat) (x : PV), L[i]? = some x → Fr (fun c => v.ownBlock = some c) w W → Calls Tryz.prog 110 #[.agg (pvC x), .pointer (some ⟨b0, 0, none⟩)] W fun e W' => e = .returned (.bool (p x)) ∧ Fr (fun _ => False) W W') :
    Calls Tryz.prog 108 #[v, .func (.func 110) #[] #[.pointer (some ⟨b0, 0, none⟩)]] w fun e w' => ∃ v', e = .returned v' ∧ w'.ownsRow base 47 3 v' (L.filter fun x => !p x).length (flat pvC (L.filter fun x => !p x)) ∧ (∀ c, v'.ownBlock = some c → v.ownBlock = some c) ∧ Fr (fun c => v.ownBlock = some c) w w' := by
  have hcs : ∀ r : PV, (pvC r).size = 3 := fun _ => rfl
  have hsq : Sq 3 pvC okPv w v L := Sq.own hcs h hok
  have hix := Lib.hid (ixPlace w v L p b0 hsq (fun W i x hx hfr => hf W i x hx (hfr.mono (fun _ _ e => e.elim))))
  rcases h.2 with ⟨rfl, h0⟩ | ⟨g, cap, cur, rfl, hbase, hb, hn, hm, hs, ht⟩
  · have hLn : L = [] := List.eq_nil_of_length_eq_zero h0
    subst hLn
    have e1 : idxOf p ([] : List PV) = -1 := rfl
    rw [e1] at hix
    clear h hsq hf hok e1 h0
    go_enter Tryz.func108, Tryz.ntmps108
    go_wp2_with (go_at_call 123; refine hix.out.mono ?_; rintro e w1 ⟨rfl, hf1⟩; have HF1 := Lib.hid hf1; clear hf1)
    go_ret
    refine ⟨.slice none 0 0, rfl, World.ownsRow_nil _ _ _ _, fun c e => by simp [Value.ownBlock] at e, HF1.out.mono (fun _ _ e => e.elim)⟩
  · obtain ⟨N, hN⟩ : ∃ N, L.length = N := ⟨_, rfl⟩
    have HN := Lib.hid hN
    have hown : ∀ c, (Value.slice (some ⟨g, 0, none⟩) L.length cap).ownBlock = some c → c = g := fun c e => by injection e with e; exact e.symm
    rcases idxOf_cases p L with ⟨h1, h2, h3⟩ | ⟨j0, x0, h1, h2, h3, h4⟩
    · have e1 : (L.filter fun x => !p x) = L := List.filter_eq_self.2 (fun x hx => by show (!p x) = true; rw [h3 x hx]; rfl)
      have HH := Lib.hid h
      rw [h1] at hix
      rw [e1]
      rw [hN] at hix ⊢
      clear h hsq hf hok e1 h1 h2 h3 hb ht hN
      go_enter Tryz.func108, Tryz.ntmps108
      go_wp2_with (go_at_call 123; refine hix.out.mono ?_; rintro e w1 ⟨rfl, hf1⟩; have HF1 := Lib.hid hf1; clear hf1)
      go_ret
      refine ⟨.slice (some ⟨g, 0, none⟩) N cap, rfl, by have := HF1.out.row HH.out (fun _ _ e => e); rw [HN.out] at this; exact this, fun c e => e, HF1.out.mono (fun _ _ e => e.elim)⟩
    · have hst := DelI.skip (DelI.start (kp := fun x => !p x) (j := j0) (cur := cur) hcs hb ht (Nat.le_of_lt (List.getElem?_eq_some_iff.1 h1).1) (fun x hx => by show (!p x) = true; rw [idxOf_before h3 x hx]; rfl)) h1 (by show (!p x0) = false; rw [h2]; rfl)
      have HST := Lib.hid hst
      have HF : Hid (∀ (W : World) (i : Nat) (x : PV), L[i]? = some x → Fr (fun c => c = g) w W → Calls Tryz.prog 110 #[.agg (pvC x), .pointer (some ⟨b0, 0, none⟩)] W fun e W' => e = .returned (.bool (p x)) ∧ Fr (fun _ => False) W W') := Lib.hid (fun W i x hx hfr => hf W i x hx (hfr.mono (fun c _ e => by rw [e]; rfl)))
      have HT := Lib.hid ht
      have hj0 := (List.getElem?_eq_some_iff.1 h1).1
      have HM := Lib.hid hm; have HS := Lib.hid hs; have HBS := Lib.hid hbase
      have HRES : Hid (∀ i W' vs, DelI 3 pvC (fun x => !p x) L 47 g cur L.length i W' → i * 3 + vs.length ≤ cur.size → (W'.setCells g (i * 3) vs).ownsRow base 47 3 (.slice (some ⟨g, 0, none⟩) i cap) (L.filter fun x => !p x).length (flat pvC (L.filter fun x => !p x))) := Lib.hid (fun i W' vs hD hv => by
        have := hD.done hcs hbase hn hm hs vs hv
        have e := hD.cnt
        rw [List.take_of_length_le (Nat.le_refl _)] at e
        rw [e] at this ⊢
        exact this)
      rw [h3] at hix
      rw [hN] at hix hn hL hj0 ⊢
      have hNI : (N : Int) ≤ 1000000000000000 := by omega
      have hcapI : (N : Int) ≤ cap := by omega
      have hjI : (j0 : Int) < N := by omega
      have hne1 : ((j0 : Int) == -1) = false := beq_eq_false_iff_ne.2 (by omega)
      have hv := fun (w : World) => (show (zeroValue 47).run Tryz.prog w = .ok (.agg #[.int .i64 0, vS [], .int .i64 0]) w by kernel_rfl)
      have HV := Lib.hid hv
      clear h hsq hf hok h1 h2 h3 h4 hb ht hN hst hm hs hbase hown hv
      go_enter Tryz.func108, Tryz.ntmps108
      go_wp2_with (go_at_call 123; refine hix.out.mono ?_; rintro e w1 ⟨rfl, hf1⟩; have HF1 := Lib.hid hf1; clear hf1)
      go_loopw [5, 6, 7] (fun vi vj _ wr => ∃ i j : Nat, vi = .int .i64 i ∧ vj = .int .i64 j ∧ j ≤ N ∧ i < j ∧ DelI 3 pvC (fun x => !p x) L 47 g cur j i wr ∧ Fr (fun c => c = g) w wr) (fun _ vj _ _ => N - (intOf vj).toNat)
      case atStart => exact ⟨j0, j0 + 1, rfl, by go_num, by omega, by omega, HST.out.keep0 HF1.out, HF1.out.mono (fun _ _ e => e.elim)⟩
      case round =>
        obtain ⟨i, j, rfl, rfl, hjN, hij, hD, hfr⟩ := hrel
        have HD := Lib.hid hD; have HFR := Lib.hid hfr
        by_cases hlt : j < N
        · obtain ⟨x, hx⟩ : ∃ x, L[j]? = some x := ⟨L[j]'(by rw [HN.out]; exact hlt), List.getElem?_eq_getElem _⟩
          have x0 := hD.at_ hcs HT.out hx (q := 0) (u := .int .i64 x.b) rfl
          have x1 := hD.at_ hcs HT.out hx (q := 1) (u := vS x.g) rfl
          have x2 := hD.at_ hcs HT.out hx (q := 2) (u := .int .i64 x.n) rfl
          have hC := HF.out (wr.alloc (.cells #[.int .i64 x.b, vS x.g, .int .i64 x.n] 47)) j x hx (hfr.alloc _)
          obtain ⟨b, hb⟩ : ∃ b, p x = b := ⟨_, rfl⟩
          rw [hb] at hC
          have HB := Lib.hid hb; have HX := Lib.hid hx
          have HC : Hid (Calls Tryz.prog 110 #[.agg #[.int .i64 x.b, vS x.g, .int .i64 x.n], .pointer (some ⟨b0, 0, none⟩)] (wr.alloc (.cells #[.int .i64 x.b, vS x.g, .int .i64 x.n] 47)) fun e W' => e = .returned (.bool b) ∧ Fr (fun _ => False) (wr.alloc (.cells #[.int .i64 x.b, vS x.g, .int .i64 x.n] 47)) W') := Lib.hid hC
          have hjI2 : (j : Int) < N := by omega
          have hiI2 : (i : Int) < N := by omega
          have hsz : N * 3 ≤ cur.size := by rw [HS.out]; exact Nat.mul_le_mul_right _ (by omega)
          clear hC hb hx hD hfr
          dsimp only [Nat.zero_add, Nat.reduceAdd, Nat.add_zero] at x0 x1 x2
          cases b with
          | true =>
            go_wp2_with (go_at_call 110; refine HC.out.mono ?_; rintro e w2 ⟨rfl, hf2⟩; have HF2 := Lib.hid (((Fr.refl (fun _ => False) wr).alloc _).trans hf2); clear hf2)
            go_roundw
            case rel => exact ⟨i, j + 1, rfl, by go_num, by omega, by omega, (HD.out.keep0 HF2.out).skip HX.out (by show (!p x) = _; rw [HB.out]; rfl), HFR.out.trans (HF2.out.mono (fun _ _ e => e.elim))⟩
            case measure => simp [intOf]; omega
          | false =>
            have hlt2 : ∀ q, q < 3 → i * 3 + q < cur.size := fun q hq => by
              have : (i + 1) * 3 ≤ N * 3 := Nat.mul_le_mul_right _ (by omega)
              rw [Nat.succ_mul] at this
              omega
            have HLT := Lib.hid hlt2
            clear hlt2
            go_wp2_with (go_at_call 110; refine HC.out.mono ?_; rintro e w2 ⟨rfl, hf2⟩; have hd2 := (HD.out.keep0 ((Fr.refl (fun _ => False) wr).alloc _)).keep0 hf2; have HD2 := Lib.hid hd2; obtain ⟨u0, d0⟩ := hd2.get (q := i * 3) (by have := HLT.out 0 (by omega); omega); have f0 := hd2.frz (i * 3); obtain ⟨u1, d1⟩ := hd2.get (q := i * 3 + 1) (by have := HLT.out 1 (by omega); omega); have f1 := hd2.frz (i * 3 + 1); obtain ⟨u2, d2⟩ := hd2.get (q := i * 3 + 2) (by have := HLT.out 2 (by omega); omega); have f2 := hd2.frz (i * 3 + 2); have hb7 := hf2.at_ (heap_new wr (.cells #[.int .i64 x.b, vS x.g, .int .i64 x.n] 47)) (fun e => e); have y0 := cell_obj hb7 0 (.int .i64 x.b) rfl; have y1 := cell_obj hb7 1 (vS x.g) rfl; have y2 := cell_obj hb7 2 (.int .i64 x.n) rfl; have HF2 := Lib.hid (((Fr.refl (fun _ => False) wr).alloc _).trans hf2); clear hf2 hd2 hb7)
            go_roundw
            case rel => exact ⟨i + 1, j + 1, by go_num, by go_num, by omega, by omega, HD2.out.put hcs (by rw [HN.out]; exact hsz) HX.out (by show (!p x) = _; rw [HB.out]; rfl), HFR.out.trans ((fr_setCells (pvC x).toList (i * 3) (HF2.out.mono (S' := fun c => c = g) (fun _ _ e => e.elim)) (fun _ => rfl)))⟩
            case measure => simp [intOf]; omega
        · obtain rfl : j = N := by omega
          have hjI2 : ¬ (j : Int) < j := by omega
          have hiI2 : (i : Int) ≤ j := by omega
          have hiI0 : (i : Int) < cap := by omega
          have hsz : i * 3 + (j - i) * 3 ≤ cur.size := by rw [HS.out, ← Nat.add_mul]; exact Nat.mul_le_mul_right _ (by omega)
          have hcl : ∀ ty, (Builtin.clear_ #[43] ty #[.slice (some ⟨g, i * 3, none⟩) (j - i) (cap - i)]).run Tryz.prog wr = .ok (.tuple #[]) (wr.setCells g (i * 3) (Builtin.zeroCells #[.int .i64 0, vS [], .int .i64 0] (j - i)).toList) := fun ty =>
            run_clear_cells (P := Tryz.prog) wr 43 47 ty (.agg #[.int .i64 0, vS [], .int .i64 0]) Tryz.underlying43 HV.out (fun u hu => by simp [Value.cells] at hu; (first | (rcases hu with rfl | rfl | rfl <;> rfl) | (rcases hu with rfl | rfl <;> rfl))) g (i * 3) (j - i) (cap - i)
              (fun q hq => by obtain ⟨u, hu⟩ := HD.out.get (q := i * 3 + q) (by simp [Value.cells] at hq; omega); rw [hu]; rfl) (fun q hq => HD.out.frz _)
          clear hD hfr
          go_wp2
          go_ret
          refine ⟨.slice (some ⟨g, 0, none⟩) i cap, rfl, HRES.out i wr _ (by have := HD.out; rw [HN.out]; exact this) (by rw [zeroCells_len]; exact hsz), fun c e => e, ?_⟩
          exact (fr_setCells _ _ HFR.out (fun _ => rfl)).mono (fun c _ e => by rw [e]; rfl)

end Go.Proofs.YtefjdcghdcbojaaGreat

namespace Go.Proofs.YtefjdcghdcbojaaGreat
open Go.RowKit Go.Maps
/-- One bin is gone through: so many are put there, or taken. -/
def stepS (can : BE → Int) (nE : BE → Int → Int) (s : Str) (st : List BE × Int × List PV) (i : Int) : List BE × Int × List PV :=
  match st.1[i.toNat]? with
  | none => st
  | some b => if min st.2.1 (can b) ≤ 0 then st else (st.1.set i.toNat (b.put s (nE b (min st.2.1 (can b)))), st.2.1 - min st.2.1 (can b), st.2.2 ++ [⟨b.nu, s, min st.2.1 (can b)⟩])
abbrev Pl (w : World) (v : Value) (L : List PV) : Prop := Sq 3 pvC okPv w v L
theorem pvSize (p : PV) : (pvC p).size = 3 := rfl
theorem set_get {α : Type} {L : List α} {i q : Nat} {x y : α} (h : (L.set i x)[q]? = some y) : (q = i ∧ y = x) ∨ (q ≠ i ∧ L[q]? = some y) := by
  rw [List.getElem?_set] at h
  by_cases e : i = q
  · rw [if_pos e] at h
    split at h
    · exact .inl ⟨e.symm, by injection h with h; exact h.symm⟩
    · cases h
  · rw [if_neg e] at h
    exact .inr ⟨fun e2 => e e2.symm, h⟩
structure SpI (w0 : World) (O : Nat → Prop) (r cap N : Nat) (PE : BE → Prop) (W : World) (Lj : List BV) (vo : Value) (out : List PV) : Prop where
  row : ∃ cur, W.heap[r]? = some (.cells cur 64) ∧ cur.size = cap * 4 ∧ cur.toList.take (N * 4) = flat BV.cs Lj
  len : Lj.length = N
  le : N ≤ cap
  bins : ∀ b ∈ Lj, BOk W b ∧ PE b.e ∧ (b.its ≠ [] → ∀ c, b.l.ownBlock = some c → c ≠ r ∧ vo.ownBlock ≠ some c ∧ (O c ∨ w0.heap.size ≤ c))
  out : W.ownsRow w0.heap.size 47 3 vo out.length (flat pvC out)
  oner : vo.ownBlock ≠ some r
  fr : Fr (fun _ => False) w0 W
  low : w0.heap.size ≤ r
section
variable {w0 W W' : World} {O : Nat → Prop} {r cap N : Nat} {PE : BE → Prop} {Lj : List BV} {vo : Value} {out : List PV}
theorem SpI.keep0 (h : SpI w0 O r cap N PE W Lj vo out) (hf : Fr (fun _ => False) W W') : SpI w0 O r cap N PE W' Lj vo out := by
  obtain ⟨⟨cur, h1, h2⟩, h3, hle, h4, h5, h6, h7, h8⟩ := h
  exact ⟨⟨cur, hf.at_ h1 (fun e => e), h2⟩, h3, hle, fun b hb => ⟨(h4 b hb).1.keep hf (fun _ _ _ e => e), (h4 b hb).2⟩, hf.row h5 (fun _ _ e => e), h6, h7.trans hf, h8⟩
theorem SpI.cells (h : SpI w0 O r cap N PE W Lj vo out) {i : Nat} {x : BV} (hx : Lj[i]? = some x) :
    W.cell? ⟨r, i * 4, none⟩ = some (.int .i64 x.nu) ∧ W.cell? ⟨r, i * 4 + 1, none⟩ = some (.int .i64 x.zo) ∧ W.cell? ⟨r, i * 4 + 2, none⟩ = some (.int .i64 x.ro) ∧ W.cell? ⟨r, i * 4 + 3, none⟩ = some x.l ∧ ∀ q, W.frozen? ⟨r, q, none⟩ = false := by
  obtain ⟨⟨cur, h1, h2, h3⟩, hl, hle, -⟩ := h
  have hi := (List.getElem?_eq_some_iff.1 hx).1
  have h4 : (i + 1) * 4 ≤ N * 4 := Nat.mul_le_mul_right 4 (by omega)
  have key : ∀ (q : Nat) (u : Value), q < 4 → (BV.cs x)[q]? = some u → W.cell? ⟨r, i * 4 + q, none⟩ = some u := fun q u hq hu => by
    refine cell_obj h1 _ _ ?_
    rw [← Array.getElem?_toList, take_get h3 (by omega)]
    exact flat_at bvSize hx q u hu
  exact ⟨key 0 _ (by omega) rfl, key 1 _ (by omega) rfl, key 2 _ (by omega) rfl, key 3 _ (by omega) rfl, fun q => obj_frozen h1 q⟩
theorem SpI.store (h : SpI w0 O r cap N PE W Lj vo out) {i : Nat} {x b : BV} (hx : Lj[i]? = some x) (hb : BOk W b) (hP : PE b.e) (hne : ∀ c, b.l.ownBlock = some c → c ≠ r ∧ vo.ownBlock ≠ some c ∧ (O c ∨ w0.heap.size ≤ c)) : SpI w0 O r cap N PE (W.setCells r (i * 4) (BV.cs b).toList) (Lj.set i b) vo out := by
  obtain ⟨⟨cur, h1, h2, h3⟩, hl, hle, h4, h5, h6, h7, h8⟩ := h
  have hi := (List.getElem?_eq_some_iff.1 hx).1
  have g1 : (i + 1) * 4 ≤ N * 4 := Nat.mul_le_mul_right 4 (by omega)
  have g2 : N * 4 ≤ cap * 4 := Nat.mul_le_mul_right 4 hle
  have hcl : (BV.cs b).toList.length = 4 := rfl
  obtain ⟨cur', c1, c2, c3⟩ := row_setCells (BV.cs b).toList (i * 4) h1 (by rw [hcl]; omega)
  have hf : Fr (fun c => c = r) W (W.setCells r (i * 4) (BV.cs b).toList) := fr_setCells _ _ (Fr.refl _ W) (fun _ => rfl)
  have hlen : (flat BV.cs (Lj.set i b)).length = N * 4 := by rw [flat_len1 bvSize, List.length_set, hl]
  refine ⟨⟨cur', c1, by omega, ?_⟩, by rw [List.length_set]; exact hl, hle, fun y hy => ?_, hf.row h5 (fun c hc e => h6 (by rw [hc, e])), h6, h7.trans' hf (fun c hc e => by omega), h8⟩
  · apply List.ext_getElem?
    intro q
    by_cases hq : q < N * 4
    · rw [List.getElem?_take_of_lt hq, Array.getElem?_toList, c3 q, hcl]
      obtain ⟨y, hy⟩ : ∃ y, (Lj.set i b)[q / 4]? = some y := ⟨_, List.getElem?_eq_getElem (by rw [List.length_set]; omega)⟩
      have hys : (BV.cs y)[q % 4]? = some ((BV.cs y)[q % 4]'(by rw [bvSize]; omega)) := Array.getElem?_eq_getElem _
      have h10 := flat_at bvSize hy (q % 4) _ hys
      rw [show q / 4 * 4 + q % 4 = q by omega] at h10
      rw [h10]
      rcases set_get hy with ⟨e1, e2⟩ | ⟨e1, e2⟩
      · subst e2
        rw [if_pos (by omega), Array.getElem?_toList, show q - i * 4 = q % 4 by omega]
        exact hys
      · rw [if_neg (by omega), ← Array.getElem?_toList, take_get h3 hq]
        have h11 := flat_at bvSize e2 (q % 4) _ hys
        rw [show q / 4 * 4 + q % 4 = q by omega] at h11
        exact h11
    · rw [List.getElem?_take_eq_none (by omega), List.getElem?_eq_none (by omega)]
  · obtain ⟨q, hq⟩ := List.getElem?_of_mem hy
    rcases set_get hq with ⟨-, rfl⟩ | ⟨-, e2⟩
    · exact ⟨hb.keep hf (fun _ c hc e => (hne c hc).1 e), hP, fun _ c hc => hne c hc⟩
    · obtain ⟨k1, k2, k3⟩ := h4 y (List.mem_of_getElem? e2)
      exact ⟨k1.keep hf (fun hn c hc e => (k3 hn c hc).1 e), k2, k3⟩
theorem flat_pv_snoc (L : List PV) (p : PV) : flat pvC (L ++ [p]) = flat pvC L ++ [.int .i64 p.b, vS p.g, .int .i64 p.n] := by rw [flat_app]; rfl
theorem SpI.push (h : SpI w0 O r cap N PE W Lj vo out) {vo' : Value} {p : PV} (hown : W'.ownsRow w0.heap.size 47 3 vo' (out.length + 1) (flat pvC out ++ [.int .i64 p.b, vS p.g, .int .i64 p.n])) (hg : W.grownBy W' vo.ownBlock) (hloc : vo'.ownBlock = vo.ownBlock ∨ vo'.ownBlock = some W.heap.size) : SpI w0 O r cap N PE W' Lj vo' (out ++ [p]) := by
  obtain ⟨⟨cur, h1, h2, h3⟩, hl, hle, h4, h5, h6, h7, h8⟩ := h
  have hf : Fr (fun c => vo.ownBlock = some c) W W' := Fr.grown hg (fun c hc _ => hc)
  have hr := (Array.getElem?_eq_some_iff.1 h1).1
  refine ⟨⟨cur, hf.at_ h1 h6, h2, h3⟩, hl, hle, fun b hb => ?_, by rw [flat_pv_snoc, List.length_append]; exact hown, fun e => ?_, h7.trans' hf (fun c hc e => by have := (h5.lt c e).1; omega), h8⟩
  · obtain ⟨k1, k2, k3⟩ := h4 b hb
    refine ⟨k1.keep hf (fun hn c hc e => (k3 hn c hc).2.1 e), k2, fun hn c hc => ⟨(k3 hn c hc).1, fun e => ?_, (k3 hn c hc).2.2⟩⟩
    rcases hloc with e2 | e2
    · exact (k3 hn c hc).2.1 (by rw [← e2, e])
    · rw [e2] at e
      injection e with e
      have := k1.l.lt hn c hc
      omega
  · rcases hloc with e2 | e2
    · exact h6 (by rw [← e2, e])
    · rw [e2] at e
      injection e with e
      omega
end
end Go.Proofs.YtefjdcghdcbojaaGreat

namespace Go.Proofs.YtefjdcghdcbojaaGreat
open Go.RowKit
def sumI (L : Its) : Int := (L.map (·.2)).sum
def getI (L : Its) (s : Str) : Int := sumI (L.filter fun p => decide (p.1 = s))
theorem sumI_app (A B : Its) : sumI (A ++ B) = sumI A + sumI B := by simp [sumI]
theorem sumI_cons (p : Str × Int) (B : Its) : sumI (p :: B) = p.2 + sumI B := by simp [sumI]
theorem sumI_perm {A B : Its} (h : A.Perm B) : sumI A = sumI B := by
  induction h with
  | nil => rfl
  | cons x _ ih => rw [sumI_cons, sumI_cons, ih]
  | swap x y l => simp only [sumI_cons]; omega
  | trans _ _ h1 h2 => exact h1.trans h2
theorem sumI_nn {L : Its} (h : ∀ p ∈ L, 0 ≤ p.2) : 0 ≤ sumI L := by
  induction L with
  | nil => exact Int.le_refl _
  | cons p r ih =>
    rw [sumI_cons]
    have := h p List.mem_cons_self
    have := ih (fun q hq => h q (List.mem_cons_of_mem _ hq))
    omega
theorem sumI_part (L : Its) (s : Str) : sumI L = getI L s + sumI (L.filter fun p => !decide (p.1 = s)) := by
  rw [← sumI_perm (List.filter_append_perm (fun p : Str × Int => decide (p.1 = s)) L), sumI_app]
  rfl
theorem wrap64_in {x : Int} (h : -9223372036854775808 ≤ x ∧ x ≤ 9223372036854775807) : wrap64 x = x := by unfold wrap64; omega
theorem totF_aux : ∀ (L : Its) (a : Int), 0 ≤ a → (∀ p ∈ L, 0 ≤ p.2) → a + sumI L ≤ 9223372036854775807 → L.foldl (fun a p => wrap64 (a + p.2)) a = a + sumI L
  | [], a, _, _, _ => by simp [sumI]
  | p :: r, a, ha, hp, hb => by
    rw [sumI_cons] at hb ⊢
    have h1 := hp p List.mem_cons_self
    have h2 := sumI_nn (fun q hq => hp q (List.mem_cons_of_mem _ hq))
    rw [List.foldl_cons, wrap64_in ⟨by omega, by omega⟩, totF_aux r (a + p.2) (by omega) (fun q hq => hp q (List.mem_cons_of_mem _ hq)) (by omega)]
    omega
theorem totF_sum {L : Its} (hp : ∀ p ∈ L, 0 ≤ p.2) (hb : sumI L ≤ 9223372036854775807) : totF L = sumI L := by
  have := totF_aux L 0 (Int.le_refl _) hp (by omega)
  unfold totF
  omega
theorem ofF_aux (s : Str) : ∀ (L : Its) (a : Int), 0 ≤ a → (∀ p ∈ L, 0 ≤ p.2) → a + getI L s ≤ 9223372036854775807 → L.foldl (ofStep s) a = a + getI L s
  | [], a, _, _, _ => by simp [getI, sumI]
  | p :: r, a, ha, hp, hb => by
    have h1 := hp p List.mem_cons_self
    have h2 : 0 ≤ getI r s := sumI_nn (fun q hq => hp q (List.mem_cons_of_mem _ ((List.mem_filter.1 hq).1)))
    rw [List.foldl_cons]
    by_cases e : p.1 = s
    · have e1 : getI (p :: r) s = p.2 + getI r s := by unfold getI; rw [List.filter_cons, if_pos (by simpa using e), sumI_cons]
      rw [e1] at hb ⊢
      have e2 : ofStep s a p = a + p.2 := by unfold ofStep; rw [if_pos e, wrap64_in ⟨by omega, by omega⟩]
      rw [e2, ofF_aux s r (a + p.2) (by omega) (fun q hq => hp q (List.mem_cons_of_mem _ hq)) (by omega)]
      omega
    · have e1 : getI (p :: r) s = getI r s := by unfold getI; rw [List.filter_cons, if_neg (by simpa using e)]
      rw [e1] at hb ⊢
      have e2 : ofStep s a p = a := by unfold ofStep; rw [if_neg e]
      rw [e2, ofF_aux s r a ha (fun q hq => hp q (List.mem_cons_of_mem _ hq)) hb]
theorem getI_le {L : Its} (s : Str) (hp : ∀ p ∈ L, 0 ≤ p.2) : getI L s ≤ sumI L := by
  rw [sumI_part L s]
  have := sumI_nn (L := L.filter fun p => !decide (p.1 = s)) (fun q hq => hp q ((List.mem_filter.1 hq).1))
  omega
theorem getI_nn {L : Its} (s : Str) (hp : ∀ p ∈ L, 0 ≤ p.2) : 0 ≤ getI L s := sumI_nn (fun q hq => hp q ((List.mem_filter.1 hq).1))
theorem ofF_get {L : Its} (s : Str) (hp : ∀ p ∈ L, 0 ≤ p.2) (hb : sumI L ≤ 9223372036854775807) : ofF L s = getI L s := by
  have := ofF_aux s L 0 (Int.le_refl _) hp (by have := getI_le s hp; omega)
  unfold ofF
  omega
end Go.Proofs.YtefjdcghdcbojaaGreat

namespace Go.Proofs.YtefjdcghdcbojaaGreat
open Go.RowKit
theorem sumI_set (L : Its) (s : Str) (n : Int) : sumI (setF L s n) = sumI L - getI L s + (if 0 < n then n else 0) := by
  rw [sumI_perm (setF_perm L s n), sumI_app, sumI_part L s]
  have : sumI (if 0 < n then [(s, n)] else []) = if 0 < n then n else 0 := by
    by_cases h : 0 < n
    · rw [if_pos h, if_pos h]; simp [sumI]
    · rw [if_neg h, if_neg h]; rfl
  rw [this]
  omega
theorem getI_set (L : Its) (s : Str) (n : Int) (t : Str) : getI (setF L s n) t = if t = s then (if 0 < n then n else 0) else getI L t := by
  unfold getI
  rw [sumI_perm ((setF_perm L s n).filter _), List.filter_append, sumI_app, List.filter_filter]
  by_cases e : t = s
  · subst e
    rw [if_pos rfl]
    have e1 : (L.filter fun p => decide (p.1 = t) && !decide (p.1 = t)) = [] := List.filter_eq_nil_iff.2 (fun p _ => by simp)
    rw [e1]
    by_cases h : 0 < n
    · rw [if_pos h, if_pos h]; simp [sumI]
    · rw [if_neg h, if_neg h]; rfl
  · rw [if_neg e]
    have e1 : (L.filter fun p => decide (p.1 = t) && !decide (p.1 = s)) = L.filter fun p => decide (p.1 = t) := List.filter_congr fun p _ => by
      by_cases h : p.1 = t
      · have : p.1 ≠ s := fun e2 => e (h ▸ e2)
        simp [h, e]
      · simp [h]
    have e2 : (if 0 < n then [(s, n)] else []).filter (fun p : Str × Int => decide (p.1 = t)) = [] := by
      refine List.filter_eq_nil_iff.2 (fun p hp => ?_)
      rw [(mem_mid hp).1]
      simpa using fun h => e h.symm
    rw [e1, e2]
    simp [sumI]
/-- A bin that may be gone through for a good. -/
structure BW (s : Str) (x : BE) : Prop where
  ro : 1 ≤ x.ro ∧ x.ro ≤ 1099511627776
  ri : RiseI x.its
  it : ∀ p ∈ x.its, goodB p.1 = true ∧ 1 ≤ p.2 ∧ p.2 ≤ 1099511627776
  fl : (x.its.filter fun p => !decide (p.1 = s)).length ≤ 16
  tot : sumI x.its ≤ x.ro
theorem BW.pos {s : Str} {x : BE} (h : BW s x) : ∀ p ∈ x.its, 0 ≤ p.2 := fun p hp => by have := (h.it p hp).2.1; omega
theorem BW.of {s : Str} {x : BE} (h : BW s x) (t : Str) : ofF x.its t = getI x.its t := ofF_get t h.pos (by have := h.tot; have := h.ro; omega)
theorem BW.left {s : Str} {x : BE} (h : BW s x) : leftE x = x.ro - sumI x.its := by
  unfold leftE
  have h1 := h.tot; have h2 := h.ro; have h3 := sumI_nn h.pos
  rw [totF_sum h.pos (by omega), wrap64_in ⟨by omega, by omega⟩]
theorem rise_one {L : Its} (h : RiseI L) (s : Str) : (L.filter fun p => decide (p.1 = s)).length ≤ 1 := by
  have h2 := h.filter (fun p => decide (p.1 = s))
  generalize hg : L.filter (fun p => decide (p.1 = s)) = F at h2
  match F, h2 with
  | [], _ => simp
  | [_], _ => simp
  | a :: b :: r, h2 =>
    have h3 := (List.pairwise_cons.1 h2).1 b List.mem_cons_self
    have ha : a ∈ L.filter (fun p => decide (p.1 = s)) := by rw [hg]; exact List.mem_cons_self
    have hb : b ∈ L.filter (fun p => decide (p.1 = s)) := by rw [hg]; exact List.mem_cons_of_mem _ List.mem_cons_self
    have e1 : a.1 = s := of_decide_eq_true (List.mem_filter.1 ha).2
    have e2 : b.1 = s := of_decide_eq_true (List.mem_filter.1 hb).2
    rw [e1, e2] at h3
    exact absurd h3 (str_irr s)
theorem len_part (L : Its) (s : Str) : L.length = (L.filter fun p => decide (p.1 = s)).length + (L.filter fun p => !decide (p.1 = s)).length := by
  rw [← (List.filter_append_perm (fun p : Str × Int => decide (p.1 = s)) L).length_eq, List.length_append]
theorem BW.len {s : Str} {x : BE} (h : BW s x) : x.its.length ≤ 17 := by
  have := len_part x.its s; have := rise_one h.ri s; have := h.fl; omega
theorem setF_filt (L : Its) (s : Str) (n : Int) : ((setF L s n).filter fun p => !decide (p.1 = s)).Perm (L.filter fun p => !decide (p.1 = s)) := by
  refine ((setF_perm L s n).filter _).trans ?_
  rw [List.filter_append, List.filter_filter]
  have e1 : (L.filter fun p => (!decide (p.1 = s)) && !decide (p.1 = s)) = L.filter fun p => !decide (p.1 = s) := List.filter_congr fun p _ => by simp
  have e2 : (if 0 < n then [(s, n)] else []).filter (fun p : Str × Int => !decide (p.1 = s)) = [] := by
    refine List.filter_eq_nil_iff.2 (fun p hp => ?_)
    rw [(mem_mid hp).1]
    simp
  rw [e1, e2, List.append_nil]
theorem BW.put {s : Str} {x : BE} (h : BW s x) (hs : goodB s = true) {n : Int} (h0 : 0 ≤ n) (h1 : sumI x.its - getI x.its s + n ≤ x.ro) : BW s (x.put s n) := by
  have hg := getI_nn s h.pos
  have hle := getI_le s h.pos
  refine ⟨h.ro, setF_rise h.ri, fun p hp => ?_, by rw [show (x.put s n).its = setF x.its s n from rfl, (setF_filt x.its s n).length_eq]; exact h.fl, ?_⟩
  · rcases setF_mem hp with ⟨h2, -⟩ | ⟨rfl, h2⟩
    · exact h.it p h2
    · have := h.ro
      exact ⟨hs, by show 1 ≤ n; omega, by show n ≤ _; omega⟩
  · show sumI (setF x.its s n) ≤ x.ro
    rw [sumI_set]
    by_cases hn : 0 < n
    · rw [if_pos hn]; exact h1
    · rw [if_neg hn]; omega
end Go.Proofs.YtefjdcghdcbojaaGreat

namespace Go.Proofs.YtefjdcghdcbojaaGreat
open Go
section
variable {P : Program} {md : Region.Mode} {l : List Oper} {z : Oper} {C : World → Prop}
/-- Each operation waits for earlier ones only. -/
def acyB (md : Region.Mode) (ops : Array Oper) : Bool := (List.range ops.size).all fun k => match ops[k]? with
  | some o => o.after.all fun e => !Region.binds md e || decide (e.on < k)
  | none => true
theorem ready_some {ops : Array Oper} {listed : Array Bool} (ha : acyB md ops = true) (hs : listed.size = ops.size) : ∀ (n k : Nat), k < ops.size → k ≤ n → listed.getD k true = false → Region.ready md ops listed ≠ []
  | n, k, hk, hn, hu => by
    by_cases hall : ∀ j, j < k → listed.getD j false = true
    · intro e
      have : k ∈ Region.ready md ops listed := by
        refine mem_ready.2 ⟨hu, ops[k], Array.getElem?_eq_getElem hk, fun e he hb => ?_⟩
        have h1 := List.all_eq_true.1 ha k (List.mem_range.2 hk)
        rw [Array.getElem?_eq_getElem hk] at h1
        obtain ⟨i, hi, rfl⟩ := Array.mem_iff_getElem.1 he
        have h2 := Array.all_eq_true.1 h1 i hi
        simp only [hb, Bool.not_true, Bool.false_or, decide_eq_true_eq] at h2
        exact hall _ h2
      rw [e] at this; cases this
    · cases n with
      | zero => exact absurd (fun j hj => by omega) hall
      | succ n =>
        have : ∃ j, j < k ∧ listed.getD j false ≠ true := Classical.byContradiction fun h => hall fun j hj => Classical.byContradiction fun hne => h ⟨j, hj, hne⟩
        obtain ⟨j, hj, hne⟩ := this
        refine ready_some ha hs n j (by omega) (by omega) ?_
        exact getD_in (by omega) (by simpa using hne)
end
end Go.Proofs.YtefjdcghdcbojaaGreat

