/- Texts of this claim, joined: cells.Maker: Num, Flag, Done; slices.Clone; cells.First: a number read; cells.Taker: Take, may, fault, Num, Flag, Done; cells.Taker: Flag, Done; what a cell reads as, plainly; cells: what First reads is what Num wrote: plainly; What makers put and takers take, as states: plainly; cells: Maker.Text; stock: Pack: what it packs, plainly; cells: Taker.Text; stock: Unpack: what any bytes are, plainly; stock: what is packed is unpacked, and the other way round: plainly; stock: what is unpacked was packed so: plainly; stock: Unpack, walked. -/
import Derived.Test.YtclgmnobockfnaaStkDoesM2
import Derived.Handy
import Derived.Lib.SliceRun
import Derived.Laws.BytesArg
import Derived.Deep.Slices
import Derived.Test.YtclgmnobockfnaaStkDoesM1
import Derived.Lib.ConvBytes
import Derived.Deep.RegionWith
namespace Go.Proofs.Ytclgmnobockfnaa
open Go.RowKit Go.Maps
theorem Bs.at0 {w : World} {v : Value} {bs : List Int} (h : Bs w v bs) (h0 : 0 < bs.length) : ∃ ad c, v = .slice (some ad) bs.length c := by
  obtain ⟨_, a, c, e, h1⟩ := h
  obtain ⟨x, hx⟩ : ∃ x, bs[0]? = some x := ⟨bs[0], List.getElem?_eq_getElem h0⟩
  obtain ⟨_, _, ad, ea, _⟩ := h1 0 x hx
  exact ⟨ad, c, by rw [e, ea]⟩
theorem Parts.one {w : World} {v : Value} {bs : List Int} {B : Nat} (h : Bn B w v bs) (h0 : 0 < bs.length) (b : Nat) (hb : b = w.heap.size) : Parts (w.alloc (.cells #[v] 31)) (.slice (some ⟨b, 0, none⟩) 1 1) [(v, bs)] := by
  subst hb
  obtain ⟨ad, c, e⟩ := h.1.at0 h0
  refine ⟨_, _, rfl, fun i p hp => ?_⟩
  match i, hp with
  | 0, hp =>
    cases hp
    refine ⟨?_, h.1.fr ((Fr.refl (fun _ => False) _).alloc _) (fun _ h => h.elim), ad, _, c, e⟩
    exact cell_obj (heap_new _ _) 0 v rfl
set_option maxRecDepth 100000 in
theorem cMNum (w : World) (g : Nat) (TS : Nat → Prop) (bs : List Int) (long : Bool) (n : Int) (h : MK w g TS bs long) (hn : okI n) :
    Calls Try.prog 40 #[.pointer (some ⟨g, 0, none⟩), .int .i64 n] w fun e w' => e = .returned (.pointer (some ⟨g, 0, none⟩)) ∧ ∃ TS', MK w' g TS' (putB bs long (numB n)) (putL bs long (numB n)) ∧ Stp TS w w' TS' := by
  have hl := numB_len hn
  go_enter Try.func40, Try.ntmps40
  go_wp2_with fail
  refine (cNum w n hn).mono ?_
  rintro e w1 ⟨v, rfl, hb, hB⟩
  obtain ⟨ad, c, rfl⟩ := hb.1.at0 (by omega)
  have hP := Parts.one hb (by omega) w1.heap.size rfl
  have hF : Fr (fun _ => False) w (w1.alloc (.cells #[.slice (some ad) (numB n).length c] 31)) := ((Fr.below hB).mono (fun _ _ h => h)).alloc _
  have hM := h.fr hF (fun _ _ h => h)
  have hcat : catL [(Value.slice (some ad) (numB n).length c, numB n)] = numB n := by simp [catL]
  have HP := Lib.hid hP; have HM := Lib.hid hM; have HF := Lib.hid hF; have HC := Lib.hid hcat; have HL := Lib.hid hl
  clear hb hP hM hF hcat hB h hl
  go_wp2_with fail
  refine (cPut _ g TS bs long _ _ HM.out HP.out (by simp) (by rw [HC.out]; have := HL.out; omega) (by rw [HC.out]; have := HL.out; omega)).mono ?_
  rw [HC.out]
  rintro e w2 ⟨rfl, TS', hM2, hs⟩
  go_wp2_with fail
  go_ret
  exact ⟨rfl, TS', hM2, (Stp.refl HF.out).trans hs⟩
set_option maxRecDepth 100000 in
theorem cClone (w : World) (v : Value) (bs : List Int) (h : Bs w v bs) (hl : (bs.length : Int) ≤ 140737488351232) : Calls Try.prog 71 #[v] w fun e w' =>
    ∃ v', e = .returned v' ∧ w'.ownsRow w.heap.size 5 1 v' bs.length (u8s bs) ∧ Below w.heap.size w w' := by
  obtain ⟨i0, hi', hz0, hz1, hz2⟩ := info_parts infoU8
  obtain ⟨hb1, a, c, rfl, hbx⟩ := id h
  obtain ⟨n, hn⟩ : ∃ n, bs.length = n := ⟨_, rfl⟩
  have HN := Lib.hid hn
  rw [hn] at hl hb1 ⊢
  clear hn
  have hq := fun (w : World) (a : Option Addr) (n c n' c' : Nat) => Lib.run_eql_slice_nil (P := Try.prog) w 31 _ a n c n' c' Try.underlying31
  cases a with
  | none =>
    have h0 : n = 0 := by
      rcases Nat.eq_zero_or_pos n with h0 | h0
      · exact h0
      · obtain ⟨ad, c', e⟩ := h.at0 (by have := HN.out; omega)
        injection e with e _ _; cases e
    subst h0
    have hbe : bs = [] := List.eq_nil_of_length_eq_zero HN.out
    subst hbe
    clear h hbx
    go_enter Try.func71, Try.ntmps71
    go_wp2_with fail
    go_ret
    exact ⟨_, rfl, World.ownsRow_nil _ _ _ _, Below.refl _ _⟩
  | some ad =>
    have hown : (w.alloc (.cells #[] 5)).ownsRow w.heap.size 5 1 (.slice (some ⟨w.heap.size, 0, none⟩) 0 0) 0 [] := World.ownsRow_made w #[] 0 (Nat.le_refl _) (Nat.zero_le _) rfl
    have hnews : ∀ (i : Nat) (u : Value), (u8s bs)[i]? = some u → (w.alloc (.cells #[] 5)).cell? (ad.add i) = some u := fun i u hu => by
      unfold u8s at hu
      rw [List.getElem?_map] at hu
      obtain ⟨x, hx, rfl⟩ := Option.map_eq_some_iff.1 hu
      obtain ⟨-, -, ad', e, hcell⟩ := hbx i x hx
      cases e
      exact ((Fr.refl (fun _ => False) w).alloc _).cell hcell (fun h => h)
    have hall : ∀ u ∈ u8s bs, u.oneCell' = true := fun u hu => by
      unfold u8s at hu
      obtain ⟨x, _, rfl⟩ := List.mem_map.1 hu
      rfl
    have hul : (u8s bs).length = n * 1 := by have := HN.out; simp [u8s]; exact this
    have HNEWS := Lib.hid hnews; have HALL := Lib.hid hall; have HUL := Lib.hid hul; have HO := Lib.hid hown
    clear hnews hall hul hown hbx h
    go_enter Try.func71, Try.ntmps71
    go_wp2_with (at_builtin; refine wpList_append_own_at _ rfl _ _ 31 rfl w.heap.size 5 i0 (.int .u8 0) 1 1 Try.underlying31 hi' hz0 hz1 hz2 rfl (by decide) (.slice (some ⟨w.heap.size, 0, none⟩) 0 0) 0 [] rfl HO.out ad n _ (u8s bs) rfl HUL.out HNEWS.out HALL.out (by unfold maxLen; omega) (by omega) (by simp) ?_; intro v' w5 hown' hgrow _ hat)
    go_ret
    refine ⟨_, rfl, by simpa using hown', ((Below.refl _ w).alloc (Nat.le_refl _) _).grown hgrow (by simp) (fun r hr => by cases hr; exact Nat.le_refl _)⟩
/-- A maker's end: its bytes anew, or an error. -/
theorem cMDone (w : World) (g : Nat) (TS : Nat → Prop) (bs : List Int) (long : Bool) (h : MK w g TS bs long) (hb : ∀ x ∈ bs, 0 ≤ x ∧ x < 256) :
    Calls Try.prog 43 #[.pointer (some ⟨g, 0, none⟩)] w fun e w' => Below w.heap.size w w' ∧ ∃ v, e = .returned (.tuple #[v, .int .i64 (if long then 3 else 0)]) ∧ w'.ownsRow w.heap.size 5 1 v (if long then [] else bs).length (u8s (if long then [] else bs)) := by
  obtain ⟨⟨vm, h1, h2, h3⟩, h4, h5, h6⟩ := id h
  obtain ⟨am, cm, rfl⟩ : ∃ a c, vm = .slice a bs.length c := by
    rcases h2.2 with ⟨e1, e2⟩ | ⟨_, _, _, e1, _⟩
    · exact ⟨_, _, by rw [e1, e2]⟩
    · exact ⟨_, _, e1⟩
  have hBs := (Bs.own h2 hb).1
  have hC := cClone w _ _ hBs (by omega)
  have b0 := cell_obj h1 0 (.slice am bs.length cm) rfl
  have b1 := cell_obj h1 1 (.bool long) rfl
  have HC := Lib.hid hC
  clear h hC hBs h2 h3 hb h4 h5 h1
  cases long with
  | true =>
    go_enter Try.func43, Try.ntmps43
    go_wp2_with fail
    go_returns
    exact ⟨Below.refl _ _, _, rfl, World.ownsRow_nil _ _ _ _⟩
  | false =>
    go_enter Try.func43, Try.ntmps43
    go_wp2_with fail
    refine HC.out.mono ?_
    rintro e w1 ⟨v, rfl, hown, hB⟩
    go_wp2_with fail
    go_returns
    exact ⟨hB, v, rfl, hown⟩
end Go.Proofs.Ytclgmnobockfnaa
namespace Go.Proofs.Ytclgmnobockfnaa
open Go.RowKit Go.Maps
set_option maxRecDepth 100000 in
theorem Bs.string {w : World} {v : Value} {bs : List Int} (h : Bs w v bs) : (convert 31 9 v).run Try.prog w = .ok (.string (strOfNums bs)) w := by
  rcases Nat.eq_zero_or_pos bs.length with h0 | h0
  · have : bs = [] := List.eq_nil_of_length_eq_zero h0
    subst this
    obtain ⟨_, a, c, rfl, _⟩ := h
    cases a with
    | none => exact run_convert_bytes_nil w 31 5 Try.underlying31 Try.underlying5 _ _ _ Try.underlying9
    | some ad =>
      rw [run_convert_bytes_string w 31 9 5 _ _ _ Try.underlying31 Try.underlying5 Try.underlying9]
      have := run_loadCells_list (P := Try.prog) w ad [] (fun j v hj => by simp at hj)
      rw [List.length_nil, run_bytesToString w ad 0 c [] (by simpa using this)]
      rfl
  · obtain ⟨ad, c, rfl⟩ := h.at0 h0
    obtain ⟨_, a, c', e, hx⟩ := h
    injection e with e1 _ _
    subst e1
    rw [run_convert_bytes_string w 31 9 5 _ _ _ Try.underlying31 Try.underlying5 Try.underlying9]
    have := run_loadCells_list (P := Try.prog) w ad (bs.map (Value.int .u8)) (fun j v hj => by
      rw [List.getElem?_map] at hj
      obtain ⟨x, hx2, rfl⟩ := Option.map_eq_some_iff.1 hj
      obtain ⟨_, _, ad', e, hc⟩ := hx j x hx2
      cases e; exact hc)
    rw [run_bytesToString w ad bs.length c bs (by simpa using this), foldl_push_bytes]
    simp [strOfNums, ByteArray.empty, ByteArray.emptyWithCapacity]
    rfl
theorem strOf_inj {x y : List Int} (hx : ∀ b ∈ x, 0 ≤ b ∧ b < 256) (hy : ∀ b ∈ y, 0 ≤ b ∧ b < 256) (h : strOfNums x = strOfNums y) : x = y := by
  have h1 : x.map (fun n => UInt8.ofNat n.toNat) = y.map (fun n => UInt8.ofNat n.toNat) := by rw [← strOfNums_data, ← strOfNums_data, h]
  induction x generalizing y with
  | nil => cases y with
    | nil => rfl
    | cons b r => simp at h1
  | cons a r ih => cases y with
    | nil => simp at h1
    | cons b s =>
      simp only [List.map_cons, List.cons.injEq] at h1
      have ha := hx a (by simp)
      have hb := hy b (by simp)
      have e := congrArg UInt8.toNat h1.1
      rw [UInt8.toNat_ofNat', UInt8.toNat_ofNat'] at e
      have : a = b := by omega
      rw [this, ih (fun z hz => hx z (by simp [hz])) (fun z hz => hy z (by simp [hz])) ?_ h1.2]
      unfold strOfNums
      rw [h1.2]
def dSize (h : Int) : Int := if 144 ≤ h then h - 144 else h - 128
def dTurn (h : Int) : Int := if 144 ≤ h then 18446744073709551615 else 0
def dStep (u c : Int) : Int := bits .or .u64 (IntKind.u64.wrap (u * 256)) c
def dU (l : List Int) : Int := l.foldl dStep 0
def dN (h : Int) (l : List Int) : Int := wrap64 (bits .xor .u64 (dU l) (dTurn h))
/-- The number with whose cell bytes begin. -/
def firstB (bs : List Int) : Option (Int × Nat) :=
  match bs with
  | [] => none
  | h :: r => if h < 128 then some (h, 1) else if 8 < dSize h ∨ (r.length : Int) < dSize h then none
    else if numB (dN h (r.take (dSize h).toNat)) = h :: r.take (dSize h).toNat then some (dN h (r.take (dSize h).toNat), 1 + (dSize h).toNat) else none
theorem dU_succ {l : List Int} {k : Nat} {x : Int} (h : l[k]? = some x) : dU (l.take (k + 1)) = dStep (dU (l.take k)) x := by
  unfold dU
  rw [List.take_add_one, h, List.foldl_append]; rfl
def firstV (o : Option (Int × Nat)) : Value := match o with
  | some (n, k) => .tuple #[.int .i64 n, .int .i64 k, .int .i64 0]
  | none => .tuple #[.int .i64 0, .int .i64 0, .int .i64 10]
theorem strNe {a b : ByteArray} (h : a ≠ b) : (a.toList == b.toList) = false := by
  have : a.toList ≠ b.toList := fun e => by
    rw [ByteArray.toList_eq, ByteArray.toList_eq] at e
    apply h
    cases a; cases b
    simp only [ByteArray.mk.injEq]
    exact Array.toList_inj.1 e
  simpa using this
theorem Bs.take {w : World} {a : Option Addr} {n c k : Nat} {bs : List Int} (h : Bs w (.slice a n c) bs) (hk : k ≤ n) : Bs w (.slice a k c) (bs.take k) := by
  obtain ⟨h0, a', c', e, hx⟩ := h
  injection e with e1 e2 e3
  subst e1 e3
  have hl : (bs.take k).length = k := by rw [List.length_take]; omega
  refine ⟨by omega, a, c, by rw [hl], fun i x hi => ?_⟩
  rw [List.getElem?_take] at hi
  split at hi
  · exact hx i x hi
  · cases hi
set_option maxRecDepth 100000 in
set_option maxHeartbeats 4000000 in
theorem cFirst (w : World) (v : Value) (bs : List Int) (h : Bs w v bs) (hcap : ∀ a n c, v = .slice a n c → n ≤ c) : Calls Try.prog 73 #[v] w fun e w' => e = .returned (firstV (firstB bs)) ∧ Below w.heap.size w w' := by
  obtain ⟨hlen, a, c, rfl, hx⟩ := id h
  cases bs with
  | nil =>
    clear h hx
    unfold firstB firstV
    dsimp only
    go_enter Try.func73, Try.ntmps73
    go_wp2
    go_returns
    exact ⟨rfl, Below.refl _ _⟩
  | cons hd r =>
    obtain ⟨h0, h1, ad, rfl, hc⟩ := hx 0 hd rfl
    have hc0 : w.cell? ad = some (.int .u8 hd) := by have := hc; unfold Addr.add at this; simpa using this
    obtain ⟨n, hn⟩ : ∃ n, r.length = n := ⟨_, rfl⟩
    have HN := Lib.hid hn
    have hl : (hd :: r).length = n + 1 := by rw [List.length_cons, hn]
    rw [hl] at hlen h ⊢
    by_cases hs : hd < 128
    · have e : firstB (hd :: r) = some (hd, 1) := by simp [firstB, hs]
      rw [e]
      unfold firstV
      dsimp only
      clear hx h hl hn e
      go_enter Try.func73, Try.ntmps73
      go_wp2
      go_returns
      exact ⟨rfl, Below.refl _ _⟩
    · have hcn : n + 1 ≤ c := by rw [← hl]; exact hcap _ _ _ (by rw [hl])
      have hbyte : ∀ x ∈ r, 0 ≤ x ∧ x < 256 := fun x hxr => by
        obtain ⟨i, hi, rfl⟩ := List.getElem_of_mem hxr
        obtain ⟨z0, z1, _⟩ := hx (i + 1) r[i] (by simp)
        exact ⟨z0, z1⟩
      have hcell : ∀ (i : Nat) (x : Int), r[i]? = some x → w.cell? (ad.add (1 + i)) = some (.int .u8 x) := fun i x hi => by
        obtain ⟨_, _, ad', e, hc⟩ := hx (i + 1) x (by simpa using hi)
        cases e
        rw [Nat.add_comm]; exact hc
      have HB := Lib.hid hbyte; have HC := Lib.hid hcell; have HH := Lib.hid h
      obtain ⟨S, hS⟩ : ∃ S, dSize hd = S := ⟨_, rfl⟩
      obtain ⟨T, hT⟩ : ∃ T, dTurn hd = T := ⟨_, rfl⟩
      have HS := Lib.hid hS; have HT := Lib.hid hT
      have hS0 : 0 ≤ S := by rw [← hS]; unfold dSize; split <;> omega
      by_cases hbad : 8 < S ∨ (n : Int) < S
      · have e : firstB (hd :: r) = none := by
          have := HN.out
          simp only [firstB, hs, if_false, hS]
          rw [if_pos (by rw [this]; exact hbad)]
        rw [e]
        unfold firstV
        dsimp only
        clear hbyte hcell hx h hl hn e hT hcap
        rcases (by omega : 8 < S ∨ S ≤ 8 ∧ (n : Int) < S) with hb1 | ⟨hb1, hb2⟩ <;> rcases (by omega : 144 ≤ hd ∨ hd < 144) with hh | hh
        all_goals
          first
          | (have hSe : S = hd - 144 := by rw [← hS]; unfold dSize; rw [if_pos hh])
          | (have hSe : S = hd - 128 := by rw [← hS]; unfold dSize; rw [if_neg (by omega)])
          clear hS hbad
          subst hSe
          go_enter Try.func73, Try.ntmps73
          go_wp2
          go_returns
          exact ⟨rfl, Below.refl _ _⟩
      · obtain ⟨m, rfl⟩ : ∃ m : Nat, S = m := ⟨S.toNat, by omega⟩
        have hm8 : (m : Int) ≤ 8 := by omega
        have hmn : (m : Int) ≤ n := by omega
        have e : firstB (hd :: r) = if numB (dN hd (r.take m)) = hd :: r.take m then some (dN hd (r.take m), 1 + m) else none := by
          have := HN.out
          simp only [firstB, hs, if_false, hS, Int.toNat_natCast]
          rw [if_neg (by rw [this]; exact hbad)]
        obtain ⟨N, hN⟩ : ∃ N, dN hd (r.take m) = N := ⟨_, rfl⟩
        have hdn : wrap64 (bits .xor .u64 (dU (r.take m)) T) = N := by rw [← hN]; unfold dN; rw [hT]
        have hNk : okI N := by rw [← hN]; unfold dN wrap64 okI; omega
        rw [e, hN]
        have HDN := Lib.hid hdn; have HNK := Lib.hid hNk
        clear hN hNk
        have hl8 : ((r.take m).length : Nat) = m := by rw [List.length_take]; have := HN.out; omega
        have HL8 := Lib.hid hl8
        clear e hdn hx hbyte hcell hl8
        have htake : ∀ (h' : Int), Bs w (.slice (some ad) (n + 1) c) (h' :: r) → Bs w (.slice (some ad) (1 + m) c) (h' :: r.take m) := fun h' hb => by
          have := hb.take (k := 1 + m) (by omega)
          rw [Nat.add_comm 1 m, List.take_succ_cons] at this
          rw [Nat.add_comm 1 m]; exact this
        have HTK := Lib.hid (htake hd h)
        clear htake
        have hbytes : ∀ x ∈ hd :: r.take m, 0 ≤ x ∧ x < 256 := fun x hx => by
          rcases List.mem_cons.1 hx with rfl | hx
          · exact ⟨h0, h1⟩
          · exact HB.out x (List.mem_of_mem_take hx)
        have hiff : strOfNums (numB N) = strOfNums (hd :: r.take m) ↔ numB N = hd :: r.take m := ⟨fun e => strOf_inj (fun x hx => numB_mem HNK.out hx) hbytes e, fun e => by rw [e]⟩
        obtain ⟨sa, hsa⟩ : ∃ x, strOfNums (numB N) = x := ⟨_, rfl⟩
        obtain ⟨sb, hsb⟩ : ∃ x, strOfNums (hd :: r.take m) = x := ⟨_, rfl⟩
        rw [hsa, hsb] at hiff
        have HIFF := Lib.hid hiff; have HSA := Lib.hid hsa; have HSB := Lib.hid hsb
        clear hiff hbytes hsa hsb
        rcases (by omega : 144 ≤ hd ∨ hd < 144) with hh | hh
        · have hde : hd = (m : Int) + 144 := by have := hS; unfold dSize at this; rw [if_pos hh] at this; omega
          have hTe : T = 18446744073709551615 := by rw [← hT]; unfold dTurn; rw [if_pos hh]
          clear hS hT HS HT hbad h hn hl hcap
          subst hTe
          subst hde
          by_cases hc1 : c = 1
          · subst hc1
            rcases Decidable.em (sa = sb) with heq | hne
            · skip
              have hv : (if numB N = ((m : Int) + 144) :: r.take m then some (N, 1 + m) else none) = some (N, 1 + m) := if_pos (HIFF.out.1 heq)
              rw [hv]
              clear hv
              subst heq
              unfold firstV
              dsimp only
              go_enter Try.func73, Try.ntmps73
              go_wp2_with fail
              go_loopw [8, 41] (fun u i wr => ∃ k : Nat, (k : Int) ≤ m ∧ u = .int .u64 (dU (r.take k)) ∧ i = .int .i64 k ∧ wr = w) (fun _ i _ => m - (intOf i).toNat)
              case atStart => exact ⟨0, by omega, rfl, rfl, rfl⟩
              case round =>
                obtain ⟨k, hk, rfl, rfl, rfl⟩ := hrel
                by_cases hkm : (k : Int) < m
                · exact absurd hkm (by omega)
                · have hke : k = m := by omega
                  subst hke
                  clear hkm hk
                  go_wp2_with fail
                  rw [HDN.out]
                  have hc2 := Lib.hid (cNum wr.drew N HNK.out)
                  have hq0 := (HTK.out.fr (Fr.refl (fun _ => False) _).drew (fun _ h => h.elim)).string
                  rw [HSB.out] at hq0
                  have hb1 : (1 : Int) + (k : Int) ≤ 1 := by omega
                  have hb0 : (0 : Int) ≤ 1 + (k : Int) := by omega
                  have hwr : IntKind.i64.wrap (1 + (k : Int)) = 1 + (k : Int) := by rw [IntKind.wrap_i64]; omega
                  have htn : (1 + (k : Int)).toNat = 1 + k := by omega
                  go_region_with (go_at_call 70; refine hc2.out.mono ?_; rintro e w1 ⟨v, rfl, hb, hB⟩; have hv1 := hb.1.string; rw [HSA.out] at hv1; have hq1 := ((HTK.out.fr (Fr.refl (fun _ => False) _).drew (fun _ h => h.elim)).fr (Fr.below (S := fun _ => False) hB) (fun _ h => h.elim)).string; rw [HSB.out] at hq1; have HBB := Lib.hid hB; clear hb hB)
                  all_goals
                    go_wp2_with fail
                    go_returns
                    exact ⟨rfl, ((Below.refl _ _).drew).trans HBB.out⟩
            · skip
              have hv : (if numB N = ((m : Int) + 144) :: r.take m then some (N, 1 + m) else none) = none := if_neg (fun e => hne (HIFF.out.2 e))
              rw [hv]
              clear hv
              have hbne : (sa.toList == sb.toList) = false := strNe hne
              unfold firstV
              dsimp only
              go_enter Try.func73, Try.ntmps73
              go_wp2_with fail
              go_loopw [8, 41] (fun u i wr => ∃ k : Nat, (k : Int) ≤ m ∧ u = .int .u64 (dU (r.take k)) ∧ i = .int .i64 k ∧ wr = w) (fun _ i _ => m - (intOf i).toNat)
              case atStart => exact ⟨0, by omega, rfl, rfl, rfl⟩
              case round =>
                obtain ⟨k, hk, rfl, rfl, rfl⟩ := hrel
                by_cases hkm : (k : Int) < m
                · exact absurd hkm (by omega)
                · have hke : k = m := by omega
                  subst hke
                  clear hkm hk
                  go_wp2_with fail
                  rw [HDN.out]
                  have hc2 := Lib.hid (cNum wr.drew N HNK.out)
                  have hq0 := (HTK.out.fr (Fr.refl (fun _ => False) _).drew (fun _ h => h.elim)).string
                  rw [HSB.out] at hq0
                  have hb1 : (1 : Int) + (k : Int) ≤ 1 := by omega
                  have hb0 : (0 : Int) ≤ 1 + (k : Int) := by omega
                  have hwr : IntKind.i64.wrap (1 + (k : Int)) = 1 + (k : Int) := by rw [IntKind.wrap_i64]; omega
                  have htn : (1 + (k : Int)).toNat = 1 + k := by omega
                  go_region_with (go_at_call 70; refine hc2.out.mono ?_; rintro e w1 ⟨v, rfl, hb, hB⟩; have hv1 := hb.1.string; rw [HSA.out] at hv1; have hq1 := ((HTK.out.fr (Fr.refl (fun _ => False) _).drew (fun _ h => h.elim)).fr (Fr.below (S := fun _ => False) hB) (fun _ h => h.elim)).string; rw [HSB.out] at hq1; have HBB := Lib.hid hB; clear hb hB)
                  all_goals
                    go_wp2_with fail
                    go_returns
                    exact ⟨rfl, ((Below.refl _ _).drew).trans HBB.out⟩
          · skip
            rcases Decidable.em (sa = sb) with heq | hne
            · skip
              have hv : (if numB N = ((m : Int) + 144) :: r.take m then some (N, 1 + m) else none) = some (N, 1 + m) := if_pos (HIFF.out.1 heq)
              rw [hv]
              clear hv
              subst heq
              unfold firstV
              dsimp only
              go_enter Try.func73, Try.ntmps73
              go_wp2_with fail
              go_loopw [8, 41] (fun u i wr => ∃ k : Nat, (k : Int) ≤ m ∧ u = .int .u64 (dU (r.take k)) ∧ i = .int .i64 k ∧ wr = w) (fun _ i _ => m - (intOf i).toNat)
              case atStart => exact ⟨0, by omega, rfl, rfl, rfl⟩
              case round =>
                obtain ⟨k, hk, rfl, rfl, rfl⟩ := hrel
                by_cases hkm : (k : Int) < m
                · obtain ⟨x, hx⟩ : ∃ x, r[k]? = some x := ⟨r[k]'(by have := HN.out; omega), List.getElem?_eq_getElem _⟩
                  have hcx := HC.out k x hx
                  obtain ⟨x0, x1⟩ := HB.out x (List.mem_of_getElem? hx)
                  have hcx : wr.cell? ⟨ad.block, ad.off + 1 + k, none⟩ = some (.int .u8 x) := by
                    rw [← hcx]
                    unfold Addr.add
                    rw [if_neg (by omega)]
                    congr 2; omega
                  have HU := Lib.hid (dU_succ hx)
                  generalize dU (r.take k) = u at *
                  clear hx
                  go_wp2
                  go_roundw
                  case rel => exact ⟨k + 1, by omega, by rw [HU.out]; rfl, by go_num, by trivial⟩
                  case measure => simp [intOf]; omega
                · have hke : k = m := by omega
                  subst hke
                  clear hkm hk
                  go_wp2_with fail
                  rw [HDN.out]
                  have hc2 := Lib.hid (cNum wr.drew N HNK.out)
                  have hq0 := (HTK.out.fr (Fr.refl (fun _ => False) _).drew (fun _ h => h.elim)).string
                  rw [HSB.out] at hq0
                  have hb1 : (1 : Int) + (k : Int) ≤ (c : Int) := by omega
                  have hb0 : (0 : Int) ≤ 1 + (k : Int) := by omega
                  have hb3 : ¬ c = 0 := by omega
                  have hwr : IntKind.i64.wrap (1 + (k : Int)) = 1 + (k : Int) := by rw [IntKind.wrap_i64]; omega
                  have htn : (1 + (k : Int)).toNat = 1 + k := by omega
                  go_region_with (go_at_call 70; refine hc2.out.mono ?_; rintro e w1 ⟨v, rfl, hb, hB⟩; have hv1 := hb.1.string; rw [HSA.out] at hv1; have hq1 := ((HTK.out.fr (Fr.refl (fun _ => False) _).drew (fun _ h => h.elim)).fr (Fr.below (S := fun _ => False) hB) (fun _ h => h.elim)).string; rw [HSB.out] at hq1; have HBB := Lib.hid hB; clear hb hB)
                  all_goals
                    go_wp2_with fail
                    go_returns
                    exact ⟨rfl, ((Below.refl _ _).drew).trans HBB.out⟩
            · skip
              have hv : (if numB N = ((m : Int) + 144) :: r.take m then some (N, 1 + m) else none) = none := if_neg (fun e => hne (HIFF.out.2 e))
              rw [hv]
              clear hv
              have hbne : (sa.toList == sb.toList) = false := strNe hne
              unfold firstV
              dsimp only
              go_enter Try.func73, Try.ntmps73
              go_wp2_with fail
              go_loopw [8, 41] (fun u i wr => ∃ k : Nat, (k : Int) ≤ m ∧ u = .int .u64 (dU (r.take k)) ∧ i = .int .i64 k ∧ wr = w) (fun _ i _ => m - (intOf i).toNat)
              case atStart => exact ⟨0, by omega, rfl, rfl, rfl⟩
              case round =>
                obtain ⟨k, hk, rfl, rfl, rfl⟩ := hrel
                by_cases hkm : (k : Int) < m
                · obtain ⟨x, hx⟩ : ∃ x, r[k]? = some x := ⟨r[k]'(by have := HN.out; omega), List.getElem?_eq_getElem _⟩
                  have hcx := HC.out k x hx
                  obtain ⟨x0, x1⟩ := HB.out x (List.mem_of_getElem? hx)
                  have hcx : wr.cell? ⟨ad.block, ad.off + 1 + k, none⟩ = some (.int .u8 x) := by
                    rw [← hcx]
                    unfold Addr.add
                    rw [if_neg (by omega)]
                    congr 2; omega
                  have HU := Lib.hid (dU_succ hx)
                  generalize dU (r.take k) = u at *
                  clear hx
                  go_wp2
                  go_roundw
                  case rel => exact ⟨k + 1, by omega, by rw [HU.out]; rfl, by go_num, by trivial⟩
                  case measure => simp [intOf]; omega
                · have hke : k = m := by omega
                  subst hke
                  clear hkm hk
                  go_wp2_with fail
                  rw [HDN.out]
                  have hc2 := Lib.hid (cNum wr.drew N HNK.out)
                  have hq0 := (HTK.out.fr (Fr.refl (fun _ => False) _).drew (fun _ h => h.elim)).string
                  rw [HSB.out] at hq0
                  have hb1 : (1 : Int) + (k : Int) ≤ (c : Int) := by omega
                  have hb0 : (0 : Int) ≤ 1 + (k : Int) := by omega
                  have hb3 : ¬ c = 0 := by omega
                  have hwr : IntKind.i64.wrap (1 + (k : Int)) = 1 + (k : Int) := by rw [IntKind.wrap_i64]; omega
                  have htn : (1 + (k : Int)).toNat = 1 + k := by omega
                  go_region_with (go_at_call 70; refine hc2.out.mono ?_; rintro e w1 ⟨v, rfl, hb, hB⟩; have hv1 := hb.1.string; rw [HSA.out] at hv1; have hq1 := ((HTK.out.fr (Fr.refl (fun _ => False) _).drew (fun _ h => h.elim)).fr (Fr.below (S := fun _ => False) hB) (fun _ h => h.elim)).string; rw [HSB.out] at hq1; have HBB := Lib.hid hB; clear hb hB)
                  all_goals
                    go_wp2_with fail
                    go_returns
                    exact ⟨rfl, ((Below.refl _ _).drew).trans HBB.out⟩
        · have hde : hd = (m : Int) + 128 := by have := hS; unfold dSize at this; rw [if_neg (by omega)] at this; omega
          have hTe : T = 0 := by rw [← hT]; unfold dTurn; rw [if_neg (by omega)]
          clear hS hT HS HT hbad h hn hl hcap
          subst hTe
          subst hde
          by_cases hc1 : c = 1
          · subst hc1
            rcases Decidable.em (sa = sb) with heq | hne
            · skip
              have hv : (if numB N = ((m : Int) + 128) :: r.take m then some (N, 1 + m) else none) = some (N, 1 + m) := if_pos (HIFF.out.1 heq)
              rw [hv]
              clear hv
              subst heq
              unfold firstV
              dsimp only
              go_enter Try.func73, Try.ntmps73
              go_wp2_with fail
              go_loopw [8, 41] (fun u i wr => ∃ k : Nat, (k : Int) ≤ m ∧ u = .int .u64 (dU (r.take k)) ∧ i = .int .i64 k ∧ wr = w) (fun _ i _ => m - (intOf i).toNat)
              case atStart => exact ⟨0, by omega, rfl, rfl, rfl⟩
              case round =>
                obtain ⟨k, hk, rfl, rfl, rfl⟩ := hrel
                by_cases hkm : (k : Int) < m
                · exact absurd hkm (by omega)
                · have hke : k = m := by omega
                  subst hke
                  clear hkm hk
                  go_wp2_with fail
                  rw [HDN.out]
                  have hc2 := Lib.hid (cNum wr.drew N HNK.out)
                  have hq0 := (HTK.out.fr (Fr.refl (fun _ => False) _).drew (fun _ h => h.elim)).string
                  rw [HSB.out] at hq0
                  have hb1 : (1 : Int) + (k : Int) ≤ 1 := by omega
                  have hb0 : (0 : Int) ≤ 1 + (k : Int) := by omega
                  have hwr : IntKind.i64.wrap (1 + (k : Int)) = 1 + (k : Int) := by rw [IntKind.wrap_i64]; omega
                  have htn : (1 + (k : Int)).toNat = 1 + k := by omega
                  go_region_with (go_at_call 70; refine hc2.out.mono ?_; rintro e w1 ⟨v, rfl, hb, hB⟩; have hv1 := hb.1.string; rw [HSA.out] at hv1; have hq1 := ((HTK.out.fr (Fr.refl (fun _ => False) _).drew (fun _ h => h.elim)).fr (Fr.below (S := fun _ => False) hB) (fun _ h => h.elim)).string; rw [HSB.out] at hq1; have HBB := Lib.hid hB; clear hb hB)
                  all_goals
                    go_wp2_with fail
                    go_returns
                    exact ⟨rfl, ((Below.refl _ _).drew).trans HBB.out⟩
            · skip
              have hv : (if numB N = ((m : Int) + 128) :: r.take m then some (N, 1 + m) else none) = none := if_neg (fun e => hne (HIFF.out.2 e))
              rw [hv]
              clear hv
              have hbne : (sa.toList == sb.toList) = false := strNe hne
              unfold firstV
              dsimp only
              go_enter Try.func73, Try.ntmps73
              go_wp2_with fail
              go_loopw [8, 41] (fun u i wr => ∃ k : Nat, (k : Int) ≤ m ∧ u = .int .u64 (dU (r.take k)) ∧ i = .int .i64 k ∧ wr = w) (fun _ i _ => m - (intOf i).toNat)
              case atStart => exact ⟨0, by omega, rfl, rfl, rfl⟩
              case round =>
                obtain ⟨k, hk, rfl, rfl, rfl⟩ := hrel
                by_cases hkm : (k : Int) < m
                · exact absurd hkm (by omega)
                · have hke : k = m := by omega
                  subst hke
                  clear hkm hk
                  go_wp2_with fail
                  rw [HDN.out]
                  have hc2 := Lib.hid (cNum wr.drew N HNK.out)
                  have hq0 := (HTK.out.fr (Fr.refl (fun _ => False) _).drew (fun _ h => h.elim)).string
                  rw [HSB.out] at hq0
                  have hb1 : (1 : Int) + (k : Int) ≤ 1 := by omega
                  have hb0 : (0 : Int) ≤ 1 + (k : Int) := by omega
                  have hwr : IntKind.i64.wrap (1 + (k : Int)) = 1 + (k : Int) := by rw [IntKind.wrap_i64]; omega
                  have htn : (1 + (k : Int)).toNat = 1 + k := by omega
                  go_region_with (go_at_call 70; refine hc2.out.mono ?_; rintro e w1 ⟨v, rfl, hb, hB⟩; have hv1 := hb.1.string; rw [HSA.out] at hv1; have hq1 := ((HTK.out.fr (Fr.refl (fun _ => False) _).drew (fun _ h => h.elim)).fr (Fr.below (S := fun _ => False) hB) (fun _ h => h.elim)).string; rw [HSB.out] at hq1; have HBB := Lib.hid hB; clear hb hB)
                  all_goals
                    go_wp2_with fail
                    go_returns
                    exact ⟨rfl, ((Below.refl _ _).drew).trans HBB.out⟩
          · skip
            rcases Decidable.em (sa = sb) with heq | hne
            · skip
              have hv : (if numB N = ((m : Int) + 128) :: r.take m then some (N, 1 + m) else none) = some (N, 1 + m) := if_pos (HIFF.out.1 heq)
              rw [hv]
              clear hv
              subst heq
              unfold firstV
              dsimp only
              go_enter Try.func73, Try.ntmps73
              go_wp2_with fail
              go_loopw [8, 41] (fun u i wr => ∃ k : Nat, (k : Int) ≤ m ∧ u = .int .u64 (dU (r.take k)) ∧ i = .int .i64 k ∧ wr = w) (fun _ i _ => m - (intOf i).toNat)
              case atStart => exact ⟨0, by omega, rfl, rfl, rfl⟩
              case round =>
                obtain ⟨k, hk, rfl, rfl, rfl⟩ := hrel
                by_cases hkm : (k : Int) < m
                · obtain ⟨x, hx⟩ : ∃ x, r[k]? = some x := ⟨r[k]'(by have := HN.out; omega), List.getElem?_eq_getElem _⟩
                  have hcx := HC.out k x hx
                  obtain ⟨x0, x1⟩ := HB.out x (List.mem_of_getElem? hx)
                  have hcx : wr.cell? ⟨ad.block, ad.off + 1 + k, none⟩ = some (.int .u8 x) := by
                    rw [← hcx]
                    unfold Addr.add
                    rw [if_neg (by omega)]
                    congr 2; omega
                  have HU := Lib.hid (dU_succ hx)
                  generalize dU (r.take k) = u at *
                  clear hx
                  go_wp2
                  go_roundw
                  case rel => exact ⟨k + 1, by omega, by rw [HU.out]; rfl, by go_num, by trivial⟩
                  case measure => simp [intOf]; omega
                · have hke : k = m := by omega
                  subst hke
                  clear hkm hk
                  go_wp2_with fail
                  rw [HDN.out]
                  have hc2 := Lib.hid (cNum wr.drew N HNK.out)
                  have hq0 := (HTK.out.fr (Fr.refl (fun _ => False) _).drew (fun _ h => h.elim)).string
                  rw [HSB.out] at hq0
                  have hb1 : (1 : Int) + (k : Int) ≤ (c : Int) := by omega
                  have hb0 : (0 : Int) ≤ 1 + (k : Int) := by omega
                  have hb3 : ¬ c = 0 := by omega
                  have hwr : IntKind.i64.wrap (1 + (k : Int)) = 1 + (k : Int) := by rw [IntKind.wrap_i64]; omega
                  have htn : (1 + (k : Int)).toNat = 1 + k := by omega
                  go_region_with (go_at_call 70; refine hc2.out.mono ?_; rintro e w1 ⟨v, rfl, hb, hB⟩; have hv1 := hb.1.string; rw [HSA.out] at hv1; have hq1 := ((HTK.out.fr (Fr.refl (fun _ => False) _).drew (fun _ h => h.elim)).fr (Fr.below (S := fun _ => False) hB) (fun _ h => h.elim)).string; rw [HSB.out] at hq1; have HBB := Lib.hid hB; clear hb hB)
                  all_goals
                    go_wp2_with fail
                    go_returns
                    exact ⟨rfl, ((Below.refl _ _).drew).trans HBB.out⟩
            · skip
              have hv : (if numB N = ((m : Int) + 128) :: r.take m then some (N, 1 + m) else none) = none := if_neg (fun e => hne (HIFF.out.2 e))
              rw [hv]
              clear hv
              have hbne : (sa.toList == sb.toList) = false := strNe hne
              unfold firstV
              dsimp only
              go_enter Try.func73, Try.ntmps73
              go_wp2_with fail
              go_loopw [8, 41] (fun u i wr => ∃ k : Nat, (k : Int) ≤ m ∧ u = .int .u64 (dU (r.take k)) ∧ i = .int .i64 k ∧ wr = w) (fun _ i _ => m - (intOf i).toNat)
              case atStart => exact ⟨0, by omega, rfl, rfl, rfl⟩
              case round =>
                obtain ⟨k, hk, rfl, rfl, rfl⟩ := hrel
                by_cases hkm : (k : Int) < m
                · obtain ⟨x, hx⟩ : ∃ x, r[k]? = some x := ⟨r[k]'(by have := HN.out; omega), List.getElem?_eq_getElem _⟩
                  have hcx := HC.out k x hx
                  obtain ⟨x0, x1⟩ := HB.out x (List.mem_of_getElem? hx)
                  have hcx : wr.cell? ⟨ad.block, ad.off + 1 + k, none⟩ = some (.int .u8 x) := by
                    rw [← hcx]
                    unfold Addr.add
                    rw [if_neg (by omega)]
                    congr 2; omega
                  have HU := Lib.hid (dU_succ hx)
                  generalize dU (r.take k) = u at *
                  clear hx
                  go_wp2
                  go_roundw
                  case rel => exact ⟨k + 1, by omega, by rw [HU.out]; rfl, by go_num, by trivial⟩
                  case measure => simp [intOf]; omega
                · have hke : k = m := by omega
                  subst hke
                  clear hkm hk
                  go_wp2_with fail
                  rw [HDN.out]
                  have hc2 := Lib.hid (cNum wr.drew N HNK.out)
                  have hq0 := (HTK.out.fr (Fr.refl (fun _ => False) _).drew (fun _ h => h.elim)).string
                  rw [HSB.out] at hq0
                  have hb1 : (1 : Int) + (k : Int) ≤ (c : Int) := by omega
                  have hb0 : (0 : Int) ≤ 1 + (k : Int) := by omega
                  have hb3 : ¬ c = 0 := by omega
                  have hwr : IntKind.i64.wrap (1 + (k : Int)) = 1 + (k : Int) := by rw [IntKind.wrap_i64]; omega
                  have htn : (1 + (k : Int)).toNat = 1 + k := by omega
                  go_region_with (go_at_call 70; refine hc2.out.mono ?_; rintro e w1 ⟨v, rfl, hb, hB⟩; have hv1 := hb.1.string; rw [HSA.out] at hv1; have hq1 := ((HTK.out.fr (Fr.refl (fun _ => False) _).drew (fun _ h => h.elim)).fr (Fr.below (S := fun _ => False) hB) (fun _ h => h.elim)).string; rw [HSB.out] at hq1; have HBB := Lib.hid hB; clear hb hB)
                  all_goals
                    go_wp2_with fail
                    go_returns
                    exact ⟨rfl, ((Below.refl _ _).drew).trans HBB.out⟩
end Go.Proofs.Ytclgmnobockfnaa
namespace Go.Proofs.Ytclgmnobockfnaa
open Go.RowKit Go.Maps
/-- A taker with bs left. -/
structure TK (w : World) (g : Nat) (TS : Nat → Prop) (bs : List Int) (bad : Bool) : Prop where
  ex : ∃ v, w.heap[g]? = some (.cells #[v, .bool bad] 124) ∧ Bs w v bs ∧ (∀ a n c, v = .slice a n c → n ≤ c) ∧ ∀ b, v.ownBlock = some b → TS b ∧ b ≠ g
  own : TS g
  lt : ∀ b, TS b → b < w.heap.size
theorem Bs.keep {S : Nat → Prop} {w w' : World} {v : Value} {bs : List Int} (h : Bs w v bs) (hf : Fr S w w') (hS : ∀ b, v.ownBlock = some b → ¬ S b) : Bs w' v bs := by
  obtain ⟨h0, a, c, rfl, h1⟩ := h
  refine ⟨h0, a, c, rfl, fun i x hx => ?_⟩
  obtain ⟨b1, b2, ad, rfl, hc⟩ := h1 i x hx
  have hb : (ad.add i).block = ad.block := by unfold Addr.add; split <;> rfl
  exact ⟨b1, b2, ad, rfl, hf.cell hc (fun e => hS ad.block rfl (hb ▸ e))⟩
theorem TK.fr {S TS : Nat → Prop} {w w' : World} {g : Nat} {bs : List Int} {bad : Bool} (h : TK w g TS bs bad) (hf : Fr S w w') (hS : ∀ b, TS b → ¬ S b) : TK w' g TS bs bad := by
  obtain ⟨⟨v, h1, h2, h3, h4⟩, h5, h6⟩ := h
  exact ⟨⟨v, hf.at_ h1 (hS _ h5), h2.keep hf (fun b hb => hS _ (h4 b hb).1), h3, h4⟩, h5, fun b hb => Nat.lt_of_lt_of_le (h6 b hb) hf.size⟩
/-- What a taker's Num gives, and what is left. -/
def numT (bs : List Int) (bad : Bool) (least most : Int) : Int × List Int × Bool :=
  if bad = true then (0, bs, true) else match firstB bs with
    | some (n, k) => if n < least ∨ most < n then (0, bs, true) else (n, bs.drop k, false)
    | none => (0, bs, true)
set_option maxRecDepth 100000 in
theorem cTake (w : World) (v : Value) (bs : List Int) (h : Bs w v bs) (hl : (bs.length : Int) ≤ 140737488351232) (hb : ∀ x ∈ bs, 0 ≤ x ∧ x < 256) : Calls Try.prog 44 #[v] w fun e w' =>
    ∃ g TS, e = .returned (.pointer (some ⟨g, 0, none⟩)) ∧ TK w' g TS bs false ∧ Fr (fun _ => False) w w' ∧ ∀ b, TS b → w.heap.size ≤ b := by
  have hC := cClone w v bs h hl
  have HC := Lib.hid hC; have HB := Lib.hid hb
  obtain ⟨_, a, c, rfl, _⟩ := h
  clear hC hb
  go_enter Try.func44, Try.ntmps44
  go_wp2_with fail
  refine HC.out.mono ?_
  rintro e w1 ⟨v', rfl, hown, hB⟩
  have hBs := Bs.own hown HB.out
  obtain ⟨_, a', c', rfl, _⟩ := id hBs.1
  have hcap : ∀ a n c, Value.slice a' bs.length c' = .slice a n c → n ≤ c := fun a n c e => by
    injection e with e1 e2 e3
    subst e1 e2 e3
    rcases hown.2 with ⟨e, e2⟩ | ⟨g, cap, cur, e, _, _, h1, _⟩
    · omega
    · injection e with _ _ e3
      omega
  have hlt := fun b hb => hown.lt b hb
  have HBS := Lib.hid hBs; have HCAP := Lib.hid hcap; have HLT := Lib.hid hlt; have HBB := Lib.hid hB
  clear hown hBs hcap hlt hB
  go_wp2_with fail
  go_ret
  refine ⟨_, fun b => b = w1.heap.size ∨ (Value.slice a' bs.length c').ownBlock = some b, rfl, ⟨⟨_, heap_new _ _, HBS.out.1.keep ((Fr.refl (fun _ => False) _).alloc _) (fun _ _ h => h), HCAP.out, fun b hb => ⟨.inr hb, ?_⟩⟩, .inl rfl, ?_⟩, ((Fr.below HBB.out).mono (fun _ _ h => h)).alloc _, ?_⟩
  · have := (HLT.out b hb).2; omega
  · rintro b (rfl | hb)
    · simp
    · have := (HLT.out b hb).2; simp; omega
  · rintro b (rfl | hb)
    · exact HBB.out.size
    · exact (HLT.out b hb).1
theorem cMay (w : World) (g : Nat) (TS : Nat → Prop) (bs : List Int) (bad : Bool) (h : TK w g TS bs bad) : Calls Try.prog 72 #[.pointer (some ⟨g, 0, none⟩)] w fun e w' => e = .returned (.bool (!bad)) ∧ w = w' := by
  obtain ⟨⟨v, h1, h2, h3, h4⟩, h5, h6⟩ := h
  have b1 := cell_obj h1 1 (.bool bad) rfl
  clear h1 h2 h3 h4 h5 h6
  go_enter Try.func72, Try.ntmps72
  go_wp2
  go_ret
  exact ⟨rfl, rfl⟩
theorem cFault (w : World) (g : Nat) (TS : Nat → Prop) (bs : List Int) (bad : Bool) (h : TK w g TS bs bad) : Calls Try.prog 74 #[.pointer (some ⟨g, 0, none⟩)] w fun e w' => (∃ v, e = .returned v) ∧ TK w' g TS bs true ∧ Fr TS w w' := by
  obtain ⟨⟨v, h1, h2, h3, h4⟩, h5, h6⟩ := h
  have b1 := cell_obj h1 1 (.bool bad) rfl
  have f1 := obj_frozen h1 1
  have H1 := Lib.hid h1; have H2 := Lib.hid h2; have H3 := Lib.hid h3; have H4 := Lib.hid h4; have H5 := Lib.hid h5; have H6 := Lib.hid h6
  clear h1 h2 h3 h4 h5 h6
  go_enter Try.func74, Try.ntmps74
  go_wp2
  go_end0
  have hF : Fr (fun b => b = g) w (w.setCell ⟨g, 1, none⟩ (.bool true)) := (Fr.refl (fun b => b = g) w).setCell (p := ⟨g, 1, none⟩) (fun _ => rfl) _
  refine ⟨⟨_, rfl⟩, ⟨⟨v, obj_set H1.out 1 (.bool true), H2.out.keep hF (fun b hb => (H4.out b hb).2), H3.out, H4.out⟩, H5.out, fun b hb => by have := H6.out b hb; have := hF.size; omega⟩, hF.mono (fun b _ e => e ▸ H5.out)⟩
theorem Bs.drop {w : World} {a : Option Addr} {n c c' k : Nat} {bs : List Int} (h : Bs w (.slice a n c) bs) (hn : bs.length = n) (hk : k ≤ n) : Bs w (.slice (a.map fun x => x.add k) (n - k) c') (bs.drop k) := by
  obtain ⟨h0, a', c1, e, hx⟩ := h
  injection e with e1 e2 e3
  subst e1
  have hl : (bs.drop k).length = n - k := by rw [List.length_drop, hn]
  refine ⟨by omega, _, c', by rw [hl], fun i x hi => ?_⟩
  rw [List.getElem?_drop] at hi
  obtain ⟨b1, b2, ad, rfl, hc⟩ := hx (k + i) x hi
  exact ⟨b1, b2, _, rfl, by rw [Go.Deep.add_add]; exact hc⟩
theorem Bs.none' (w : World) (a : Option Addr) (c : Nat) : Bs w (.slice a 0 c) [] := ⟨by simp, a, c, rfl, fun i x h => by simp at h⟩
theorem firstB_le {bs : List Int} {n : Int} {k : Nat} (h : firstB bs = some (n, k)) : 1 ≤ k ∧ k ≤ bs.length := by
  cases bs with
  | nil => cases h
  | cons a r =>
    simp only [firstB] at h
    split at h
    · cases h; simp
    · split at h
      · cases h
      · split at h
        · cases h
          rename_i h1 _
          simp only [List.length_cons]
          omega
        · cases h
set_option maxRecDepth 100000 in
set_option maxHeartbeats 1000000 in
theorem cTNum (w : World) (g : Nat) (TS : Nat → Prop) (bs : List Int) (bad : Bool) (least most : Int) (h : TK w g TS bs bad) :
    Calls Try.prog 45 #[.pointer (some ⟨g, 0, none⟩), .int .i64 least, .int .i64 most] w fun e w' => e = .returned (.int .i64 (numT bs bad least most).1) ∧ TK w' g TS (numT bs bad least most).2.1 (numT bs bad least most).2.2 ∧ Fr TS w w' := by
  have hM := fun w h => cMay w g TS bs bad h
  have HM := Lib.hid hM; have HT := Lib.hid h
  clear hM
  cases bad with
  | true =>
    clear h
    unfold numT
    go_enter Try.func45, Try.ntmps45
    go_wp2_with (go_at_call 72; refine (HM.out _ HT.out).mono ?_; rintro e w1 ⟨rfl, rfl⟩)
    go_ret
    exact ⟨rfl, HT.out, Fr.refl _ _⟩
  | false =>
    obtain ⟨⟨v, h1, h2, h3, h4⟩, h5, h6⟩ := id h
    obtain ⟨_, a, c, rfl, _⟩ := id h2
    have b0 := cell_obj h1 0 (.slice a bs.length c) rfl
    have hFi := cFirst w _ bs h2 h3
    have HFI := Lib.hid hFi; have H1 := Lib.hid h1; have H2 := Lib.hid h2; have H3 := Lib.hid h3; have H4 := Lib.hid h4; have H5 := Lib.hid h5; have H6 := Lib.hid h6
    obtain ⟨o, ho⟩ : ∃ o, firstB bs = o := ⟨_, rfl⟩
    rw [ho] at HFI
    have HO := Lib.hid ho
    clear hFi h h1 h2 h3 h4 h5 h6 ho
    cases o with
    | none =>
      have e : numT bs false least most = (0, bs, true) := by simp [numT, HO.out]
      rw [e]
      clear e
      go_enter Try.func45, Try.ntmps45
      go_wp2_with (go_at_call 72; refine (HM.out _ HT.out).mono ?_; rintro e w1 ⟨rfl, rfl⟩)
      refine HFI.out.mono ?_
      rintro e w2 ⟨rfl, hB⟩
      unfold firstV
      dsimp only
      have HT2 := Lib.hid (HT.out.fr (Fr.below (S := fun _ => False) hB) (fun _ _ h => h)); have HBB := Lib.hid hB
      clear hB
      go_wp2_with fail
      refine (cFault _ _ _ _ _ HT2.out).mono ?_
      rintro e w3 ⟨⟨v, rfl⟩, hT3, hF3⟩
      go_wp2_with fail
      go_ret
      exact ⟨rfl, hT3, ((Fr.below (S := TS) HBB.out)).trans' hF3 (fun _ _ h => h)⟩
    | some p =>
      obtain ⟨n, k⟩ := p
      obtain ⟨hk1, hk2⟩ := firstB_le HO.out
      by_cases hbnd : n < least ∨ most < n
      · have e : numT bs false least most = (0, bs, true) := by simp [numT, HO.out, hbnd]
        rw [e]
        clear e hk1 hk2
        rcases (by omega : n < least ∨ least ≤ n ∧ most < n) with hlo | ⟨hlo, hhi⟩
        all_goals
          clear hbnd
          go_enter Try.func45, Try.ntmps45
          go_wp2_with (go_at_call 72; refine (HM.out _ HT.out).mono ?_; rintro e w1 ⟨rfl, rfl⟩)
          refine HFI.out.mono ?_
          rintro e w2 ⟨rfl, hB⟩
          unfold firstV
          dsimp only
          have HT2 := Lib.hid (HT.out.fr (Fr.below (S := fun _ => False) hB) (fun _ _ h => h)); have HBB := Lib.hid hB
          clear hB
          go_wp2_with fail
          refine (cFault _ _ _ _ _ HT2.out).mono ?_
          rintro e w3 ⟨⟨v, rfl⟩, hT3, hF3⟩
          go_wp2_with fail
          go_ret
          exact ⟨rfl, hT3, ((Fr.below (S := TS) HBB.out)).trans' hF3 (fun _ _ h => h)⟩
      · have e : numT bs false least most = (n, bs.drop k, false) := by simp only [numT, HO.out, hbnd]; simp
        rw [e]
        have hlo : least ≤ n := by omega
        have hhi : n ≤ most := by omega
        clear e hbnd
        have hcap := H3.out _ _ _ rfl
        obtain ⟨ln, hln⟩ : ∃ ln, bs.length = ln := ⟨_, rfl⟩
        have HLN := Lib.hid hln
        rw [hln] at hk2 hcap b0
        clear hln
        go_enter Try.func45, Try.ntmps45
        go_wp2_with (go_at_call 72; refine (HM.out _ HT.out).mono ?_; rintro e w1 ⟨rfl, rfl⟩)
        rw [HLN.out] at HFI
        refine HFI.out.mono ?_
        rintro e w2 ⟨rfl, hB⟩
        unfold firstV
        dsimp only
        have hF2 := Fr.below (S := fun _ => False) hB
        have hG2 := hF2.at_ H1.out (fun h => h)
        rw [HLN.out] at hG2
        have c0 := cell_obj hG2 0 (.slice a ln c) rfl
        have f0 := obj_frozen hG2 0
        have HG2 := Lib.hid hG2; have HF2 := Lib.hid hF2
        clear hB hF2 hG2 b0
        have hpost : ∀ v' : Value, Bs w2 v' (bs.drop k) → (∀ a n c, v' = .slice a n c → n ≤ c) → (∀ b, v'.ownBlock = some b → (Value.slice a ln c).ownBlock = some b) →
            TK (w2.setCell ⟨g, 0, none⟩ v') g TS (bs.drop k) false ∧ Fr TS w (w2.setCell ⟨g, 0, none⟩ v') := fun v' hb hc ho => by
          have hF : Fr (fun b => b = g) w2 (w2.setCell ⟨g, 0, none⟩ v') := (Fr.refl (fun b => b = g) w2).setCell (p := ⟨g, 0, none⟩) (fun _ => rfl) _
          have h4 := H4.out
          rw [HLN.out] at h4
          refine ⟨⟨⟨v', obj_set HG2.out 0 v', hb.keep hF (fun b e => (h4 b (ho b e)).2), hc, fun b e => h4 b (ho b e)⟩, H5.out, fun b e => ?_⟩, (HF2.out.mono (fun _ _ h => h.elim)).trans' hF (fun b _ e => e ▸ H5.out)⟩
          have := H6.out b e; have := HF2.out.size; have := hF.size; omega
        have HPOST := Lib.hid hpost
        have hb2 : Bs w2 (.slice a ln c) bs := by have := H2.out.fr HF2.out (fun _ h => h.elim); rw [HLN.out] at this; exact this
        have HB2 := Lib.hid hb2
        clear hpost hb2
        go_wp2_with fail
        · have hck : c = k := by assumption
          have hlk : ln = k := by omega
          go_ret
          refine ⟨rfl, HPOST.out _ ?_ ?_ ?_⟩
          · have e0 : bs.drop k = [] := List.drop_eq_nil_of_le (by rw [HLN.out]; omega)
            rw [e0, show ln - k = 0 by omega]
            exact Bs.none' _ _ _
          · rintro a' n' c' e
            injection e with _ e2 e3
            omega
          · intro b e
            cases a with
            | none => cases e
            | some ad => exact e
        · go_ret
          refine ⟨rfl, HPOST.out _ (HB2.out.drop HLN.out hk2) ?_ ?_⟩
          · rintro a' n' c' e
            injection e with _ e2 e3
            omega
          · intro b e
            cases a with
            | none => cases e
            | some ad =>
              have hb : (ad.add k).block = ad.block := by unfold Addr.add; split <;> rfl
              simp only [Option.map, Value.ownBlock, hb] at e ⊢
              exact e
end Go.Proofs.Ytclgmnobockfnaa
namespace Go.Proofs.Ytclgmnobockfnaa
open Go.RowKit Go.Maps
def doneT (bs : List Int) (bad : Bool) : Int := if bad = true ∨ bs ≠ [] then 10 else 0
theorem cTDone (w : World) (g : Nat) (TS : Nat → Prop) (bs : List Int) (bad : Bool) (h : TK w g TS bs bad) :
    Calls Try.prog 48 #[.pointer (some ⟨g, 0, none⟩)] w fun e w' => e = .returned (.int .i64 (doneT bs bad)) ∧ w = w' := by
  obtain ⟨⟨v, h1, h2, -, -⟩, -, -⟩ := h
  obtain ⟨hlen, a, c, rfl, -⟩ := id h2
  have b0 := cell_obj h1 0 (.slice a bs.length c) rfl
  have b1 := cell_obj h1 1 (.bool bad) rfl
  clear h1 h2
  cases bad with
  | true =>
    clear b0
    rw [show doneT bs true = 10 by simp [doneT]]
    go_enter Try.func48, Try.ntmps48
    go_wp2
    go_ret
    exact ⟨rfl, rfl⟩
  | false =>
    cases bs with
    | nil =>
      rw [show doneT [] false = 0 by simp [doneT]]
      go_enter Try.func48, Try.ntmps48
      go_wp2
      go_ret
      exact ⟨rfl, rfl⟩
    | cons x r =>
      obtain ⟨n, hn⟩ : ∃ n, (x :: r).length = n + 1 := ⟨r.length, rfl⟩
      rw [hn] at b0 hlen
      clear hn
      rw [show doneT (x :: r) false = 10 by simp [doneT]]
      go_enter Try.func48, Try.ntmps48
      go_wp2
      go_ret
      exact ⟨rfl, rfl⟩
end Go.Proofs.Ytclgmnobockfnaa
namespace Go.Proofs.Ytclgmnobockfnaa
open Go.RowKit Go.Maps
theorem bitLen_lt : ∀ (f x : Nat), x < 2 ^ f → x < 2 ^ (Lib.bitLenAux f x)
  | 0, x, h => by simp at h; subst h; simp [Lib.bitLenAux]
  | f + 1, x, h => by
    unfold Lib.bitLenAux
    by_cases h0 : x = 0
    · simp [h0]
    · rw [if_neg h0, Nat.add_comm 1, Nat.pow_succ]
      have := bitLen_lt f (x / 2) (by rw [Nat.pow_succ] at h; omega)
      omega
theorem nSz_lt {u : Nat} (h : u < 18446744073709551616) : u < 256 ^ nSz u := by
  have h1 : u < 2 ^ Lib.bitLen u := bitLen_lt 64 u h
  refine Nat.lt_of_lt_of_le h1 ?_
  rw [show (256 : Nat) = 2 ^ 8 from rfl, ← Nat.pow_mul]
  refine Nat.pow_le_pow_right (by omega) ?_
  unfold nSz; omega
theorem or_add (x c : Nat) (hx : x < 72057594037927936) (hc : c < 256) : bits .or .u64 (IntKind.u64.wrap ((x : Int) * 256)) (c : Int) = ((x * 256 + c : Nat) : Int) := by
  have e1 : IntKind.u64.wrap ((x : Int) * 256) = ((x * 256 : Nat) : Int) := by
    show ((x : Int) * 256) % 18446744073709551616 = _
    omega
  rw [e1, u64_or_nat _ _ (by omega) (by omega)]
  congr 1
  have := Nat.two_pow_add_eq_or_of_lt (i := 8) (b := c) (by omega) x
  rw [Nat.mul_comm x 256]
  exact this.symm
/-- The bytes back. -/
theorem dU_beB (u : Nat) : ∀ (k : Nat) (a : Nat), k ≤ 8 → a * 256 ^ k + u % 256 ^ k < 18446744073709551616 → (beB u k).foldl dStep (a : Int) = ((a * 256 ^ k + u % 256 ^ k : Nat) : Int)
  | 0, a, _, _ => by simp [beB, Nat.mod_one]
  | k + 1, a, hk, h => by
    simp only [beB, List.foldl_cons]
    have hpos : 0 < 256 ^ k := Nat.pow_pos (by omega)
    have hsp : u % 256 ^ (k + 1) = (u / 256 ^ k % 256) * 256 ^ k + u % 256 ^ k := by
      rw [Nat.pow_succ, Nat.mod_mul, Nat.add_comm, Nat.mul_comm]
    have hx : a < 72057594037927936 := by
      refine Nat.lt_of_not_le fun hge => ?_
      have h1 : a * 256 ≤ a * 256 ^ (k + 1) := Nat.mul_le_mul_left _ (by rw [Nat.pow_succ]; omega)
      omega
    have e1 : dStep (a : Int) ((u / 256 ^ k % 256 : Nat) : Int) = ((a * 256 + u / 256 ^ k % 256 : Nat) : Int) := or_add a _ hx (Nat.mod_lt _ (by omega))
    rw [e1]
    have e2 : (a * 256 + u / 256 ^ k % 256) * 256 ^ k + u % 256 ^ k = a * 256 ^ (k + 1) + u % 256 ^ (k + 1) := by
      rw [hsp, Nat.pow_succ, Nat.add_mul, Nat.mul_assoc, Nat.mul_comm 256, Nat.add_assoc]
    rw [dU_beB u k _ (by omega) (by rw [e2]; exact h), e2]
theorem dU_num {u : Nat} (h : u < 9223372036854775808) : dU (beB u (nSz u)) = (u : Int) := by
  have hl := nSz_lt (u := u) (by omega)
  have := dU_beB u (nSz u) 0 (nSz_le (by omega)) (by rw [Nat.mod_eq_of_lt hl]; omega)
  rw [Nat.mod_eq_of_lt hl] at this
  simpa [dU] using this
theorem xorOnes' (m : Nat) (h : m < 18446744073709551616) : bits .xor .u64 (m : Int) 18446744073709551615 = ((18446744073709551615 - m : Nat) : Int) := by
  rw [show (18446744073709551615 : Int) = ((18446744073709551615 : Nat) : Int) from rfl, u64_xor_nat _ _ h (by omega), Nat.xor_comm, xorOnes _ h]
theorem xorZero (m : Nat) (h : m < 18446744073709551616) : bits .xor .u64 (m : Int) 0 = (m : Int) := by
  rw [show (0 : Int) = ((0 : Nat) : Int) from rfl, u64_xor_nat _ _ h (by omega)]
  simp
theorem numB_big {n : Int} (h : ¬ (0 ≤ n ∧ n < 128)) : numB n = (numH n + nSz (numU n)) :: beB (numU n) (nSz (numU n)) := by unfold numB; rw [if_neg h]
/-- A NUMBER'S CELL IS READ AS THAT NUMBER, whatever follows. -/
theorem firstB_num {n : Int} (hn : okI n) (r : List Int) : firstB (numB n ++ r) = some (n, (numB n).length) := by
  by_cases h : 0 ≤ n ∧ n < 128
  · have e : numB n = [n] := by unfold numB; rw [if_pos h]
    rw [e]
    simp [firstB, h.2]
  · have hU := numU_lt hn
    have hs8 := nSz_le (u := numU n) (by omega)
    have hl : (beB (numU n) (nSz (numU n))).length = nSz (numU n) := beB_len _ _
    have hd := dU_num hU
    have hfull := numB_big h
    rw [hfull]
    obtain ⟨s, hs⟩ : ∃ s, nSz (numU n) = s := ⟨_, rfl⟩
    rw [hs] at hs8 hl hd hfull ⊢
    have hH : dSize (numH n + s) = s ∧ dTurn (numH n + s) = (if n < 0 then 18446744073709551615 else 0) := by
      unfold dSize dTurn numH
      by_cases h0 : n < 0
      · rw [if_pos h0, if_pos (by omega), if_pos (by omega), if_pos h0]; omega
      · rw [if_neg h0, if_neg (by omega), if_neg (by omega), if_neg h0]; omega
    have hge : ¬ numH n + (s : Int) < 128 := by unfold numH; split <;> omega
    have htk : (beB (numU n) s ++ r).take s = beB (numU n) s := by rw [List.take_append_of_le_length (by omega), List.take_of_length_le (by omega)]
    have hN : dN (numH n + s) (beB (numU n) s) = n := by
      unfold dN
      rw [hd, hH.2]
      unfold okI at hn
      by_cases h0 : n < 0
      · rw [if_pos h0, xorOnes' _ (by omega)]
        unfold wrap64 numU
        rw [if_pos h0]
        omega
      · rw [if_neg h0, xorZero _ (by omega)]
        unfold wrap64 numU
        rw [if_neg h0]
        omega
    simp only [List.cons_append, firstB, hge, if_false, hH.1, Int.toNat_natCast, htk, hN]
    rw [if_neg (by simp only [List.length_append, hl]; omega), if_pos hfull]
    simp only [List.length_cons, hl, Nat.add_comm]
/-- What is read begins with that number's cell. -/
theorem firstB_of {bs : List Int} {n : Int} {k : Nat} (h : firstB bs = some (n, k)) (hb : ∀ x ∈ bs, 0 ≤ x ∧ x < 256) : okI n ∧ k = (numB n).length ∧ bs = numB n ++ bs.drop k := by
  cases bs with
  | nil => cases h
  | cons a r =>
    simp only [firstB] at h
    by_cases ha : a < 128
    · rw [if_pos ha] at h
      cases h
      have h0 := (hb n (by simp)).1
      have e : numB n = [n] := by unfold numB; rw [if_pos ⟨h0, ha⟩]
      refine ⟨by unfold okI; omega, by rw [e]; rfl, by rw [e]; rfl⟩
    · rw [if_neg ha] at h
      split at h
      · cases h
      · rename_i hs
        split at h
        · rename_i he
          injection h with h
          injection h with h1 h2
          subst h2
          rw [h1] at he
          have hok : okI n := by rw [← h1]; unfold dN wrap64 okI; omega
          have hS0 : 0 ≤ dSize a := by unfold dSize; split <;> omega
          have hl : (r.take (dSize a).toNat).length = (dSize a).toNat := by rw [List.length_take]; omega
          refine ⟨hok, by rw [he, List.length_cons, hl, Nat.add_comm], ?_⟩
          rw [he, Nat.add_comm, List.drop_succ_cons, List.cons_append, List.take_append_drop]
        · cases h
end Go.Proofs.Ytclgmnobockfnaa
namespace Go.Proofs.Ytclgmnobockfnaa
open Go.RowKit Go.Maps
abbrev Mst := List Int × Bool
def mkP (s : Mst) (c : List Int) : Mst := (putB s.1 s.2 c, putL s.1 s.2 c)
def mkAll (s : Mst) (cs : List (List Int)) : Mst := cs.foldl mkP s
abbrev Tst := List Int × Bool
def tk (t : Tst) (a b : Int) : Int × Tst := ((numT t.1 t.2 a b).1, (numT t.1 t.2 a b).2)
theorem firstB_i64 {bs : List Int} {n : Int} {k : Nat} (h : firstB bs = some (n, k)) : n < 128 ∨ okI n := by
  cases bs with
  | nil => cases h
  | cons a r =>
    simp only [firstB] at h
    split at h
    · cases h; exact .inl (by assumption)
    · split at h
      · cases h
      · split at h
        · injection h with h
          injection h with h1 h2
          right; rw [← h1]; unfold dN wrap64 okI; omega
        · cases h
theorem tk_in (t : Tst) {a b : Int} (h0 : a ≤ 0) (h1 : 0 ≤ b) : a ≤ (tk t a b).1 ∧ (tk t a b).1 ≤ b := by
  unfold tk numT
  dsimp only
  split
  · exact ⟨h0, h1⟩
  · split
    · split
      · exact ⟨h0, h1⟩
      · dsimp only; omega
    · exact ⟨h0, h1⟩
theorem tk_in1 (t : Tst) {b : Int} (h1 : 0 ≤ b) : 0 ≤ (tk t 1 b).1 ∧ (tk t 1 b).1 ≤ b := by
  unfold tk numT
  dsimp only
  split
  · exact ⟨by omega, h1⟩
  · split
    · split
      · exact ⟨by omega, h1⟩
      · dsimp only; omega
    · exact ⟨by omega, h1⟩
theorem xTk (w : World) (g : Nat) (TS : Nat → Prop) (t : Tst) (a b : Int) (h : TK w g TS t.1 t.2) :
    Calls Try.prog 45 #[.pointer (some ⟨g, 0, none⟩), .int .i64 a, .int .i64 b] w fun e w' => e = .returned (.int .i64 (tk t a b).1) ∧ TK w' g TS (tk t a b).2.1 (tk t a b).2.2 ∧ Fr TS w w' := cTNum w g TS t.1 t.2 a b h
def Byt (l : List Int) : Prop := ∀ x ∈ l, 0 ≤ x ∧ x < 256
theorem tk_bad {t : Tst} (h : t.2 = true) (a b : Int) : tk t a b = (0, t) := by
  obtain ⟨bs, bad⟩ := t
  dsimp only at h
  subst h
  simp [tk, numT]
theorem tk_bad0 (t : Tst) (a b : Int) (h : (tk t a b).2.2 = true) : (tk t a b).1 = 0 := by
  unfold tk numT at *
  dsimp only at *
  split at h
  · simp_all
  · split at h
    · split at h
      · simp_all
      · cases h
    · simp_all
theorem tk_ok {t : Tst} {a b : Int} (h : (tk t a b).2.2 = false) : t.2 = false ∧ a ≤ (tk t a b).1 ∧ (tk t a b).1 ≤ b := by
  obtain ⟨bs, bad⟩ := t
  unfold tk numT at *
  dsimp only at *
  cases bad with
  | true => simp at h
  | false =>
    cases e : firstB bs with
    | none => rw [e] at h; simp at h
    | some p =>
      obtain ⟨n, k⟩ := p
      rw [e] at h
      simp only [Bool.false_eq_true, if_false] at h ⊢
      by_cases hr : n < a ∨ b < n
      · rw [if_pos hr] at h; cases h
      · rw [if_neg hr]
        refine ⟨by first | rfl | trivial, ?_⟩
        dsimp only; omega
theorem tk_take {t : Tst} {a b : Int} (hb : Byt t.1) (h : (tk t a b).2.2 = false) : okI (tk t a b).1 ∧ t.1 = numB (tk t a b).1 ++ (tk t a b).2.1 ∧ (a ≤ (tk t a b).1 ∧ (tk t a b).1 ≤ b) ∧ t.2 = false ∧ Byt (tk t a b).2.1 := by
  obtain ⟨bs, bad⟩ := t
  unfold tk numT at *
  dsimp only at *
  cases bad with
  | true => simp at h
  | false =>
    cases e : firstB bs with
    | none => rw [e] at h; simp at h
    | some p =>
      obtain ⟨n, k⟩ := p
      rw [e] at h
      simp only [Bool.false_eq_true, if_false] at h ⊢
      by_cases hr : n < a ∨ b < n
      · rw [if_pos hr] at h; cases h
      · rw [if_neg hr]
        obtain ⟨h1, h2, h3⟩ := firstB_of e hb
        exact ⟨h1, h3, by dsimp only; omega, by first | rfl | trivial, fun x hx => hb x (List.mem_of_mem_drop hx)⟩
theorem tk_give {n a b : Int} (h : okI n) (h1 : a ≤ n) (h2 : n ≤ b) (r : List Int) : tk (numB n ++ r, false) a b = (n, (r, false)) := by
  unfold tk numT
  simp only [Bool.false_eq_true, if_false, firstB_num h]
  rw [if_neg (by omega)]
  simp
theorem numB_one : numB 1 = [1] := by simp [numB]
theorem numB_zero : numB 0 = [0] := by simp [numB]
theorem nSz_of' {u k : Nat} (hk : k ≤ 8) (h : u < 256 ^ k) : nSz u ≤ k := by
  have h2 : u < 2 ^ (8 * k) := by rw [Nat.pow_mul]; exact h
  have := Lib.bitLen_le u (8 * k) (by omega) h2
  unfold nSz; omega
theorem numB_le {n : Int} {k : Nat} (hk : k ≤ 8) (h0 : 0 ≤ n) (h : n < ((256 ^ k : Nat) : Int)) : (numB n).length ≤ k + 1 := by
  by_cases hs : 0 ≤ n ∧ n < 128
  · unfold numB; rw [if_pos hs]; simp
  · rw [numB_big hs]
    have hu : numU n = n.toNat := by unfold numU; rw [if_neg (by omega)]
    have := nSz_of' (u := numU n) hk (by rw [hu]; omega)
    simp [beB_len]; exact this
theorem mkAll_flat : ∀ {cs : List (List Int)} {bs : List Int}, bs.length + cs.flatten.length ≤ 262144 → mkAll (bs, false) cs = (bs ++ cs.flatten, false)
  | [], bs, _ => by simp [mkAll]
  | c :: r, bs, h => by
    rw [List.flatten_cons, List.length_append] at h
    have e : mkP (bs, false) c = (bs ++ c, false) := by
      unfold mkP putB putL
      have : ¬ 262144 < bs.length + c.length := by omega
      simp [this]
    have := mkAll_flat (cs := r) (bs := bs ++ c) (by rw [List.length_append]; omega)
    unfold mkAll at *
    rw [List.foldl_cons, e, this]
    simp
end Go.Proofs.Ytclgmnobockfnaa
namespace Go.Proofs.Ytclgmnobockfnaa
open Go.RowKit Go.Maps
/-- A text's bytes. -/
def sB (s : Str) : List Int := s.map fun c => (c.toNat : Int)
theorem sB_len (s : Str) : (sB s).length = s.length := by simp [sB]
theorem sB_byt (s : Str) : Byt (sB s) := by
  intro x hx
  obtain ⟨c, -, rfl⟩ := List.mem_map.1 hx
  have := c.toNat_lt
  omega
/-- A text's cell. -/
def textB (s : Str) : List Int := numB (s.length : Int) ++ sB s
theorem bytesWorld_fr (w : World) (e : TypeId) (s : ByteArray) : Fr (fun _ => False) w (Lib.bytesWorld w e s) :=
  ⟨rfl, rfl, rfl, by rw [Lib.bytesWorld_size]; omega, fun b hb _ => Lib.bytesWorld_at_old w e s b hb⟩
theorem bytesWorld_bs (w : World) (s : Str) (c : Nat) (hs : s.length ≤ 65536) : Bs (Lib.bytesWorld w 5 ⟨s.toArray⟩) (.slice (some ⟨w.heap.size, 0, none⟩) s.length c) (sB s) := by
  refine ⟨by rw [sB_len]; omega, some ⟨w.heap.size, 0, none⟩, c, by rw [sB_len], fun i x hx => ?_⟩
  have hb := sB_byt s x (List.mem_of_getElem? hx)
  refine ⟨hb.1, hb.2, _, rfl, ?_⟩
  have hi : i < s.length := by have := (List.getElem?_eq_some_iff.1 hx).1; rwa [sB_len] at this
  have := Lib.bytesWorld_cell w 5 ⟨s.toArray⟩ i (by simpa [ByteArray.size] using hi)
  rw [show (⟨w.heap.size, 0, none⟩ : Addr).add i = ⟨w.heap.size, i, none⟩ by simp [Addr.add]; omega, this]
  unfold sB at hx
  rw [List.getElem?_map, List.getElem?_eq_getElem hi] at hx
  injection hx with hx
  subst hx
  simp [List.getD, hi]
set_option maxRecDepth 100000 in
set_option maxHeartbeats 2000000 in
theorem cMText (w : World) (g : Nat) (TS : Nat → Prop) (bs : List Int) (long : Bool) (s : Str) (h : MK w g TS bs long) (hs : s.length ≤ 65536) :
    Calls Try.prog 41 #[.pointer (some ⟨g, 0, none⟩), vS s] w fun e w' => e = .returned (.pointer (some ⟨g, 0, none⟩)) ∧ ∃ TS', MK w' g TS' (putB bs long (textB s)) (putL bs long (textB s)) ∧ Stp TS w w' TS' := by
  have hn : okI (s.length : Int) := by unfold okI; omega
  have hl := numB_len hn
  have hN := Lib.hid (cNum w (s.length : Int) hn)
  have hcv := fun (W : World) => Lib.run_convert_string_bytes (P := Try.prog) W 9 31 5 ⟨s.toArray⟩ Try.underlying9 Try.underlying31 Try.underlying5
  have HH := Lib.hid h; have HL := Lib.hid hl
  have hsz : (ByteArray.mk s.toArray).size = s.length := by simp [ByteArray.size]
  simp only [hsz] at hcv
  clear h hl hsz
  go_enter Try.func41, Try.ntmps41
  go_wp2_with fail
  refine hN.out.mono ?_
  rintro e w1 ⟨v, rfl, hb, hB⟩
  obtain ⟨ad, c, rfl⟩ := hb.1.at0 (by have := HL.out; omega)
  have HBN := Lib.hid hb; have HB := Lib.hid hB
  clear hb hB
  go_wp2_with fail
  obtain ⟨cc, hcc⟩ : ∃ cc, grownCap w1 s.length 0 5 = cc := ⟨_, rfl⟩
  rw [hcc]
  have hFb := bytesWorld_fr w1 5 ⟨s.toArray⟩
  have hBs := bytesWorld_bs w1 s cc hs
  obtain ⟨V, hV⟩ : ∃ V, Lib.bytesWorld w1 5 ⟨s.toArray⟩ = V := ⟨_, rfl⟩
  rw [hV] at hFb hBs ⊢
  have hF2 : Fr (fun _ => False) w1 (V.alloc (.cells #[.slice (some ad) (numB (s.length : Int)).length c, .slice (some ⟨w1.heap.size, 0, none⟩) s.length cc] 31)) := hFb.alloc _
  have hF : Fr (fun _ => False) w _ := (Fr.below HB.out).trans hF2
  have hM := HH.out.fr hF (fun _ _ h => h)
  have hcat : catL [(Value.slice (some ad) (numB (s.length : Int)).length c, numB (s.length : Int)), (Value.slice (some ⟨w1.heap.size, 0, none⟩) s.length cc, sB s)] = textB s := by simp [catL, textB]
  have hblk := heap_new V (.cells #[.slice (some ad) (numB (s.length : Int)).length c, .slice (some ⟨w1.heap.size, 0, none⟩) s.length cc] 31)
  have hP : Parts (V.alloc (.cells #[.slice (some ad) (numB (s.length : Int)).length c, .slice (some ⟨w1.heap.size, 0, none⟩) s.length cc] 31)) (.slice (some ⟨V.heap.size, 0, none⟩) 2 2) [(Value.slice (some ad) (numB (s.length : Int)).length c, numB (s.length : Int)), (Value.slice (some ⟨w1.heap.size, 0, none⟩) s.length cc, sB s)] := by
    refine ⟨_, _, rfl, fun i p hp => ?_⟩
    match i, hp with
    | 0, hp =>
      cases hp
      exact ⟨cell_obj hblk 0 _ rfl, HBN.out.1.fr hF2 (fun _ h => h.elim), ad, _, c, rfl⟩
    | 1, hp =>
      cases hp
      exact ⟨cell_obj hblk 1 _ rfl, hBs.fr ((Fr.refl (fun _ => False) _).alloc _) (fun _ h => h.elim), ⟨w1.heap.size, 0, none⟩, _, cc, rfl⟩
  have HM := Lib.hid hM; have HP := Lib.hid hP; have HC := Lib.hid hcat; have HF := Lib.hid hF
  have hlt : Hid (0 < (textB s).length ∧ ((textB s).length : Int) ≤ 1099511627776) := Lib.hid (by have := HL.out; unfold textB; rw [List.length_append, sB_len]; omega)
  clear hFb hBs hV hF2 hF hM hcat hblk hP hcc
  refine (cPut _ g TS bs long _ _ HM.out HP.out (by simp) (by rw [HC.out]; exact hlt.out.2) (by rw [HC.out]; exact hlt.out.1)).mono ?_
  rw [HC.out]
  rintro e w2 ⟨rfl, TS', hM2, hs2⟩
  go_wp2_with fail
  go_ret
  exact ⟨rfl, TS', hM2, (Stp.refl HF.out).trans hs2⟩
end Go.Proofs.Ytclgmnobockfnaa
namespace Go.Proofs.Ytclgmnobockfnaa
open Go.RowKit Go.Maps
def numsB (r : SR) (k : Nat) : List Int := (List.range k).flatMap fun j => numB (r.get j)
def rowB (p : Str × SR) : List Int := textB p.1 ++ numsB p.2 11
def packS (A : Stk) : List Int := numB (A.length : Int) ++ A.flatMap rowB
theorem numsB_succ (r : SR) (k : Nat) : numsB r (k + 1) = numsB r k ++ numB (r.get k) := by simp [numsB, List.range_succ]
theorem SRok.get {r : SR} (h : SRok r) (j : Nat) : okI (r.get j) := by
  have hc := h.counted
  obtain ⟨⟨a0, a1, a2, a3, b0, b1, b2, b3, b4, b5⟩, -, -⟩ := h
  unfold okI SR.get
  split <;> omega
theorem numsB_len {r : SR} (h : SRok r) (k : Nat) : (numsB r k).length ≤ 9 * k := by
  induction k with
  | zero => simp [numsB]
  | succ k ih =>
    rw [numsB_succ, List.length_append]
    have := (numB_len (h.get k)).2
    omega
theorem goodB_len {s : Str} (h : goodB s = true) : s.length ≤ 16 := by
  unfold goodB at h
  simp at h
  omega
theorem textB_len {s : Str} (h : s.length ≤ 16) : (textB s).length ≤ 25 := by
  unfold textB
  rw [List.length_append, sB_len]
  have := (numB_len (n := (s.length : Int)) (by unfold okI; omega)).2
  omega
theorem rowB_len {p : Str × SR} (h1 : goodB p.1 = true) (h2 : SRok p.2) : (rowB p).length ≤ 124 := by
  unfold rowB
  rw [List.length_append]
  have := textB_len (goodB_len h1)
  have := numsB_len h2 11
  omega
theorem rows_len : ∀ {L : Stk}, (∀ p ∈ L, goodB p.1 = true ∧ SRok p.2) → (L.flatMap rowB).length ≤ 124 * L.length
  | [], _ => by simp
  | p :: r, h => by
    rw [List.flatMap_cons, List.length_append, List.length_cons]
    have := rowB_len (h p (by simp)).1 (h p (by simp)).2
    have := rows_len (L := r) (fun q hq => h q (by simp [hq]))
    omega
theorem rowsB_byt {L : Stk} (h : ∀ p ∈ L, goodB p.1 = true ∧ SRok p.2) : Byt (L.flatMap rowB) := by
  intro x hx
  obtain ⟨p, hp, hx⟩ := List.mem_flatMap.1 hx
  unfold rowB textB numsB at hx
  obtain ⟨h1, h2⟩ := h p hp
  simp only [List.mem_append, List.mem_flatMap] at hx
  rcases hx with (hx | hx) | ⟨j, _, hx⟩
  · exact numB_mem (by have := goodB_len h1; unfold okI; omega) hx
  · exact sB_byt _ x hx
  · exact numB_mem (h2.get j) hx
theorem packS_byt {A : Stk} (h : SOk A) : Byt (packS A) := by
  intro x hx
  rcases List.mem_append.1 hx with hx | hx
  · exact numB_mem (by have := h.len; unfold okI; omega) hx
  · exact rowsB_byt (fun p hp => ⟨h.good p hp, h.row p hp⟩) x hx
theorem packS_len {A : Stk} (h : SOk A) : (packS A).length ≤ 7945 := by
  unfold packS
  rw [List.length_append]
  have := (numB_len (n := (A.length : Int)) (by have := h.len; unfold okI; omega)).2
  have := rows_len (fun p hp => ⟨h.good p hp, h.row p hp⟩)
  have := h.len
  omega
theorem put_ok {bs c : List Int} (h : bs.length + c.length ≤ 262144) : putB bs false c = bs ++ c ∧ putL bs false c = false := by
  unfold putB putL
  have : ¬ 262144 < bs.length + c.length := by omega
  simp [this]
theorem MK.fa {B : Nat} {w w' : World} {g : Nat} {TS : Nat → Prop} {bs : List Int} {long : Bool} (h : MK w g TS bs long) (hf : Fa B w w') : MK w' g TS bs long := by
  obtain ⟨⟨v, h1, h2, h3⟩, h4, h5, h6⟩ := h
  exact ⟨⟨v, Fa.cells hf h1, Fa.row hf h2, h3⟩, h4, fun b hb => Nat.lt_of_lt_of_le (h5 b hb) hf.size, h6⟩
theorem mNum {w : World} {g : Nat} {TS : Nat → Prop} {bs : List Int} (n : Int) (h : MK w g TS bs false) (hn : okI n) (hl : bs.length ≤ 262100) :
    Calls Try.prog 40 #[.pointer (some ⟨g, 0, none⟩), .int .i64 n] w fun e w' => e = .returned (.pointer (some ⟨g, 0, none⟩)) ∧ ∃ TS', MK w' g TS' (bs ++ numB n) false ∧ Stp TS w w' TS' := by
  have hp := put_ok (bs := bs) (c := numB n) (by have := (numB_len hn).2; omega)
  have := cMNum w g TS bs false n h hn
  rw [hp.1, hp.2] at this
  exact this
theorem mText {w : World} {g : Nat} {TS : Nat → Prop} {bs : List Int} (s : Str) (h : MK w g TS bs false) (hs : s.length ≤ 16) (hl : bs.length ≤ 262100) :
    Calls Try.prog 41 #[.pointer (some ⟨g, 0, none⟩), vS s] w fun e w' => e = .returned (.pointer (some ⟨g, 0, none⟩)) ∧ ∃ TS', MK w' g TS' (bs ++ textB s) false ∧ Stp TS w w' TS' := by
  have hp := put_ok (bs := bs) (c := textB s) (by have := textB_len hs; omega)
  have := cMText w g TS bs false s h (by omega)
  rw [hp.1, hp.2] at this
  exact this
end Go.Proofs.Ytclgmnobockfnaa
namespace Go.Proofs.Ytclgmnobockfnaa
open Go.RowKit Go.Maps
/-- Bytes, as a text. -/
def bS (bs : List Int) : Str := bs.map fun x => UInt8.ofNat x.toNat
theorem strOfNums_bS (bs : List Int) : strOfNums bs = ⟨(bS bs).toArray⟩ := rfl
theorem bS_sB (s : Str) : bS (sB s) = s := by
  unfold bS sB
  rw [List.map_map]
  conv => rhs; rw [← List.map_id s]
  refine List.map_congr_left fun c _ => ?_
  simp
theorem sB_bS {bs : List Int} (h : Byt bs) : sB (bS bs) = bs := by
  unfold bS sB
  rw [List.map_map]
  conv => rhs; rw [← List.map_id bs]
  refine List.map_congr_left fun x hx => ?_
  have := h x hx
  simp only [Function.comp, id, UInt8.toNat_ofNat']
  omega
/-- What a taker's Text gives, and what is left. -/
def tkT (t : Tst) (m : Int) : Str × Tst :=
  let n := tk t 0 m
  if n.2.2 = true then ([], n.2) else if (n.2.1.length : Int) < n.1 then ([], (n.2.1, true)) else (bS (n.2.1.take n.1.toNat), (n.2.1.drop n.1.toNat, false))
set_option maxRecDepth 100000 in
set_option maxHeartbeats 4000000 in
theorem cTText (w : World) (g : Nat) (TS : Nat → Prop) (t : Tst) (m : Int) (h : TK w g TS t.1 t.2) (hm : 0 ≤ m) :
    Calls Try.prog 46 #[.pointer (some ⟨g, 0, none⟩), .int .i64 m] w fun e w' => e = .returned (vS (tkT t m).1) ∧ TK w' g TS (tkT t m).2.1 (tkT t m).2.2 ∧ Fr TS w w' := by
  have hN := Lib.hid (xTk w g TS t 0 m h)
  have hin := tk_in t (a := 0) (b := m) (by omega) hm
  obtain ⟨N, hNN⟩ : ∃ N, tk t 0 m = N := ⟨_, rfl⟩
  have hT : Hid (tkT t m = if N.2.2 = true then ([], N.2) else if (N.2.1.length : Int) < N.1 then ([], (N.2.1, true)) else (bS (N.2.1.take N.1.toNat), (N.2.1.drop N.1.toNat, false))) := Lib.hid (by unfold tkT; rw [hNN])
  rw [hNN] at hN hin
  obtain ⟨n, bs, bad⟩ := N
  dsimp only at hN hin hT
  obtain ⟨h0, h1⟩ := hin
  obtain ⟨k, rfl⟩ : ∃ k : Nat, n = k := ⟨n.toNat, by omega⟩
  rw [Int.toNat_natCast] at hT
  clear h hNN
  cases bad with
  | true =>
    have hT2 : Hid (tkT t m = ([], (bs, true))) := Lib.hid (by rw [hT.out]; rfl)
    clear hT
    go_enter Try.func46, Try.ntmps46
    go_wp2_with fail
    refine hN.out.mono ?_
    rintro e w1 ⟨rfl, hK, hF⟩
    have HK := Lib.hid hK; have HF := Lib.hid hF
    clear hK hF
    go_wp2_with (go_at_call 72; refine (cMay w1 g TS bs true HK.out).mono ?_; rintro e w2 ⟨rfl, rfl⟩)
    go_ret
    rw [hT2.out]
    exact ⟨rfl, HK.out, HF.out⟩
  | false =>
    by_cases hlt : (bs.length : Int) < (k : Int)
    · have hT2 : Hid (tkT t m = ([], (bs, true))) := Lib.hid (by rw [hT.out, if_neg (by decide), if_pos hlt])
      clear hT
      go_enter Try.func46, Try.ntmps46
      go_wp2_with fail
      refine hN.out.mono ?_
      rintro e w1 ⟨rfl, hK, hF⟩
      obtain ⟨⟨v, k1, k2, k3, k4⟩, k5, k6⟩ := id hK
      obtain ⟨hbl, a, c, rfl, -⟩ := id k2
      have c0 := cell_obj k1 0 (.slice a bs.length c) rfl
      obtain ⟨ln, hln⟩ : ∃ ln, bs.length = ln := ⟨_, rfl⟩
      rw [hln] at c0 hlt hbl
      have HK := Lib.hid hK; have HF := Lib.hid hF
      clear hK hF k1 k2 k3 k4 k5 k6 hln
      go_wp2_with (first
        | (go_at_call 72; refine (cMay w1 g TS bs false HK.out).mono ?_; rintro e w2 ⟨rfl, rfl⟩)
        | (go_at_call 74; refine (cFault w1 g TS bs false HK.out).mono ?_; rintro e w2 ⟨⟨v, rfl⟩, hK2, hF2⟩; have HK2 := Lib.hid hK2; have HF2 := Lib.hid hF2; clear hK2 hF2))
      go_ret
      rw [hT2.out]
      exact ⟨rfl, HK2.out, HF.out.trans HF2.out⟩
    · have hT2 : Hid (tkT t m = (bS (bs.take k), (bs.drop k, false))) := Lib.hid (by rw [hT.out, if_neg (by decide), if_neg hlt])
      clear hT
      go_enter Try.func46, Try.ntmps46
      go_wp2_with fail
      refine hN.out.mono ?_
      rintro e w1 ⟨rfl, hK, hF⟩
      obtain ⟨⟨v, k1, k2, k3, k4⟩, k5, k6⟩ := id hK
      obtain ⟨hbl, a, c, rfl, -⟩ := id k2
      have c0 := cell_obj k1 0 (.slice a bs.length c) rfl
      have f0 := obj_frozen k1 0
      have hcap := k3 _ _ _ rfl
      obtain ⟨ln, hln⟩ : ∃ ln, bs.length = ln := ⟨_, rfl⟩
      have HLN := Lib.hid hln
      have k2 := k2
      have HK1 := Lib.hid k1; have HK2 := Lib.hid k2; have HK4 := Lib.hid k4; have HK5 := Lib.hid k5; have HK6 := Lib.hid k6
      rw [hln] at c0 hlt hbl hcap HK1 HK2 HK4
      have hkl : (k : Int) ≤ (ln : Int) := by omega
      have hk0 : (0 : Int) ≤ k := by omega
      have HK := Lib.hid hK; have HF := Lib.hid hF
      have hstr := (Bs.take HK2.out (k := k) (by omega)).string
      rw [strOfNums_bS] at hstr
      have hpost : ∀ v' : Value, Bs w1 v' (bs.drop k) → (∀ a n c, v' = .slice a n c → n ≤ c) → (∀ b, v'.ownBlock = some b → (Value.slice a ln c).ownBlock = some b) →
          TK (w1.setCell ⟨g, 0, none⟩ v') g TS (bs.drop k) false ∧ Fr TS w (w1.setCell ⟨g, 0, none⟩ v') := fun v' hb hc ho => by
        have hF0 : Fr (fun b => b = g) w1 (w1.setCell ⟨g, 0, none⟩ v') := (Fr.refl (fun b => b = g) w1).setCell (p := ⟨g, 0, none⟩) (fun _ => rfl) _
        have h4 := HK4.out
        refine ⟨⟨⟨v', obj_set HK1.out 0 v', hb.keep hF0 (fun b e => (h4 b (ho b e)).2), hc, fun b e => h4 b (ho b e)⟩, HK5.out, fun b e => ?_⟩, HF.out.trans' hF0 (fun b _ e => e ▸ HK5.out)⟩
        have := HK6.out b e; have := hF0.size; omega
      have HPOST := Lib.hid hpost
      obtain ⟨sv, hsv⟩ : ∃ sv, bS (bs.take k) = sv := ⟨_, rfl⟩
      rw [hsv] at hstr hT2
      clear hK hF k1 k2 k3 k4 k5 k6 hln hpost hsv h1
      go_wp2_with (go_at_call 72; refine (cMay w1 g TS bs false HK.out).mono ?_; rintro e w2 ⟨rfl, rfl⟩)
      · have hck : c = k := by assumption
        have hlk : ln = k := by omega
        go_ret
        rw [hT2.out]
        refine ⟨rfl, HPOST.out _ ?_ ?_ ?_⟩
        · have e0 : bs.drop k = [] := List.drop_eq_nil_of_le (by rw [HLN.out]; omega)
          rw [e0, show ln - k = 0 by omega]
          exact Bs.none' _ _ _
        · rintro a' n' c' e
          injection e with _ e2 e3
          omega
        · intro b e
          cases a with
          | none => cases e
          | some ad => exact e
      · go_ret
        rw [hT2.out]
        refine ⟨rfl, HPOST.out _ (HK2.out.drop HLN.out (by omega)) ?_ ?_⟩
        · rintro a' n' c' e
          injection e with _ e2 e3
          omega
        · intro b e
          cases a with
          | none => cases e
          | some ad =>
            have hb : (ad.add k).block = ad.block := by unfold Addr.add; split <;> rfl
            simp only [Option.map, Value.ownBlock, hb] at e ⊢
            exact e
end Go.Proofs.Ytclgmnobockfnaa
namespace Go.Proofs.Ytclgmnobockfnaa
open Go.RowKit Go.Maps
abbrev minI : Int := -9223372036854775808
abbrev maxI : Int := 9223372036854775807
/-- The first k of a row's numbers, taken. -/
def tkNums (t : Tst) : Nat → SR × Tst
  | 0 => (SR.zero, t)
  | k + 1 => ((tkNums t k).1.set k (tk (tkNums t k).2 minI maxI).1, (tk (tkNums t k).2 minI maxI).2)
/-- A row, taken. -/
def tkRow (t : Tst) : Str × SR × Tst := ((tkT t 16).1, tkNums (tkT t 16).2 11)
def rowMay (last : Str) (g : Str) (r : SR) : Bool := goodB g && decide (last < g) && r.bal && r.right
/-- n rows, taken. -/
def unpL : Nat → Tst → Str → Stk → Option (Stk × Tst)
  | 0, t, _, A => some (A, t)
  | n + 1, t, last, A => if rowMay last (tkRow t).1 (tkRow t).2.1 = true then unpL n (tkRow t).2.2 (tkRow t).1 (putS ktS.lt A (tkRow t).1 (tkRow t).2.1) else none
def unpS (bs : List Int) : Option Stk :=
  match unpL (tk (bs, false) 0 64).1.toNat (tk (bs, false) 0 64).2 [] [] with
  | none => none
  | some (A, t) => if doneT t.1 t.2 = 0 then some A else none
end Go.Proofs.Ytclgmnobockfnaa
namespace Go.Proofs.Ytclgmnobockfnaa
open Go.RowKit Go.Maps
theorem ins_end {ν : Type} {g : Str} {r : ν} : ∀ {B : List (Str × ν)}, (∀ p ∈ B, p.1 < g) → insS ktS.lt (g, r) B = B ++ [(g, r)]
  | [], _ => rfl
  | y :: t, h => by
    have hy := h y (by simp)
    have e : ktS.lt g y.1 = false := by rw [ktS_lt]; simpa using str_asym hy
    show (if ktS.lt g y.1 = true then (g, r) :: y :: t else y :: insS ktS.lt (g, r) t) = _
    rw [e]
    simp only [Bool.false_eq_true, if_false]
    rw [ins_end (fun p hp => h p (by simp [hp]))]
    rfl
theorem put_end {ν : Type} {g : Str} {r : ν} {B : List (Str × ν)} (h : ∀ p ∈ B, p.1 < g) : putS ktS.lt B g r = B ++ [(g, r)] := by
  unfold putS
  have e : delS B g = B := by
    unfold delS
    rw [List.filter_eq_self]
    intro p hp
    have := h p hp
    simp only [Bool.not_eq_true', decide_eq_false_iff_not]
    rintro rfl
    exact str_irr _ this
  rw [e]
  exact ins_end h
theorem tkT_give {s : Str} (h : s.length ≤ 16) (r : List Int) : tkT (textB s ++ r, false) 16 = (s, (r, false)) := by
  unfold tkT textB
  rw [List.append_assoc, tk_give (n := (s.length : Int)) (by unfold okI; omega) (by omega) (by omega)]
  have h1 : ¬ (((sB s ++ r).length : Int) < (s.length : Int)) := by rw [List.length_append, sB_len]; omega
  simp only [Bool.false_eq_true, if_false]
  rw [if_neg h1]
  have h2 : ((s.length : Int)).toNat = (sB s).length := by rw [sB_len]; omega
  rw [h2, List.take_left, List.drop_left, bS_sB]
/-- A row's first k numbers, the others 0. -/
def preR (R : SR) : Nat → SR
  | 0 => SR.zero
  | k + 1 => (preR R k).set k (R.get k)
theorem preR_all (R : SR) : preR R 11 = R := by
  obtain ⟨f0, f1, f2, f3, f4, f5, f6, f7, f8, f9, f10⟩ := R
  simp [preR, SR.set, SR.get, SR.zero]
theorem tkNums_give {R : SR} (h : ∀ j, okI (R.get j)) : ∀ (k : Nat) (r : List Int), tkNums (numsB R k ++ r, false) k = (preR R k, (r, false))
  | 0, r => rfl
  | k + 1, r => by
    have e := tkNums_give h k (numB (R.get k) ++ r)
    unfold tkNums
    rw [numsB_succ, List.append_assoc, e]
    have := h k
    unfold okI at this
    rw [tk_give (h k) (by unfold minI; omega) (by unfold maxI; omega)]
    rfl
theorem tkRow_give {p : Str × SR} (h1 : goodB p.1 = true) (h2 : SRok p.2) (r : List Int) : tkRow (rowB p ++ r, false) = (p.1, p.2, (r, false)) := by
  unfold tkRow rowB
  rw [List.append_assoc, tkT_give (goodB_len h1)]
  dsimp only
  rw [tkNums_give h2.get, preR_all]
theorem unpL_give : ∀ {C : Stk} {B : Stk} {last : Str} (r : List Int), (∀ p ∈ C, goodB p.1 = true ∧ SRok p.2) → RiseS C → (∀ p ∈ C, last < p.1) → (∀ q ∈ B, ∀ p ∈ C, q.1 < p.1) → unpL C.length (C.flatMap rowB ++ r, false) last B = some (B ++ C, (r, false))
  | [], B, last, r, _, _, _, _ => by simp [unpL]
  | p :: C, B, last, r, h, hr, hl, hB => by
    obtain ⟨hg, hok⟩ := h p (by simp)
    rw [List.flatMap_cons, List.append_assoc, List.length_cons]
    unfold unpL
    rw [tkRow_give hg hok]
    have hm : rowMay last p.1 p.2 = true := by
      unfold rowMay
      rw [hg, decide_eq_true (hl p (by simp)), hok.balB, hok.right]
      rfl
    rw [if_pos hm, put_end (fun q hq => hB q hq p (by simp))]
    have hr' := List.pairwise_cons.1 hr
    rw [unpL_give r (fun q hq => h q (by simp [hq])) hr'.2 (fun q hq => hr'.1 q hq) (fun q hq q' hq' => by
      rcases List.mem_append.1 hq with e | e
      · exact hB q e q' (by simp [hq'])
      · have : q = p := by simpa using e
        subst this
        exact hr'.1 q' hq')]
    simp
theorem good_pos {s : Str} (h : goodB s = true) : ([] : Str) < s := by
  cases s with
  | nil => simp [goodB] at h
  | cons a r => exact List.nil_lt_cons a r
theorem unpS_pack {A : Stk} (h : SOk A) : unpS (packS A) = some A := by
  have hl := h.len
  unfold unpS packS
  rw [tk_give (n := (A.length : Int)) (by unfold okI; omega) (by omega) (by omega)]
  have := unpL_give (C := A) (B := []) (last := []) [] (fun p hp => ⟨h.good p hp, h.row p hp⟩) h.rise (fun p hp => good_pos (h.good p hp)) (fun q hq => by cases hq)
  rw [List.append_nil] at this
  rw [show ((A.length : Int)).toNat = A.length by omega, this]
  simp [doneT]
end Go.Proofs.Ytclgmnobockfnaa
namespace Go.Proofs.Ytclgmnobockfnaa
open Go.RowKit Go.Maps
theorem tkT_take {t : Tst} {m : Int} (hb : Byt t.1) (h : (tkT t m).2.2 = false) : t.1 = textB (tkT t m).1 ++ (tkT t m).2.1 ∧ t.2 = false ∧ Byt (tkT t m).2.1 := by
  obtain ⟨q, hq⟩ : ∃ q, tk t 0 m = q := ⟨_, rfl⟩
  unfold tkT at *
  rw [hq] at h ⊢
  dsimp only at h ⊢
  by_cases h1 : q.2.2 = true
  · rw [if_pos h1] at h
    dsimp only at h
    rw [h1] at h
    cases h
  · rw [if_neg h1] at h ⊢
    have h1 : q.2.2 = false := by simpa using h1
    by_cases h2 : (q.2.1.length : Int) < q.1
    · rw [if_pos h2] at h; cases h
    · rw [if_neg h2]
      dsimp only
      have := tk_take hb (a := 0) (b := m) (by rw [hq]; exact h1)
      rw [hq] at this
      obtain ⟨h3, h4, ⟨h5, h6⟩, h7, h8⟩ := this
      refine ⟨?_, h7, fun x hx => h8 x (List.mem_of_mem_drop hx)⟩
      have hl : (q.2.1.take q.1.toNat).length = q.1.toNat := by rw [List.length_take]; omega
      unfold textB
      rw [sB_bS (fun x hx => h8 x (List.mem_of_mem_take hx))]
      have : ((bS (q.2.1.take q.1.toNat)).length : Int) = q.1 := by unfold bS; rw [List.length_map, hl]; omega
      rw [this, List.append_assoc, List.take_append_drop]
      exact h4
theorem get_set (r : SR) {k : Nat} (h : k < 11) (x : Int) : (r.set k x).get k = x := by
  match k, h with
  | 0, _ => rfl
  | 1, _ => rfl
  | 2, _ => rfl
  | 3, _ => rfl
  | 4, _ => rfl
  | 5, _ => rfl
  | 6, _ => rfl
  | 7, _ => rfl
  | 8, _ => rfl
  | 9, _ => rfl
  | 10, _ => rfl
theorem get_set_ne (r : SR) {j k : Nat} (h : k < 11) (hj : j < k) (x : Int) : (r.set k x).get j = r.get j := by
  match k, h, j, hj with
  | 1, _, 0, _ => rfl
  | 1, _, j + 1, hj => exact absurd hj (by omega)
  | 2, _, 0, _ => rfl
  | 2, _, 1, _ => rfl
  | 2, _, j + 2, hj => exact absurd hj (by omega)
  | 3, _, 0, _ => rfl
  | 3, _, 1, _ => rfl
  | 3, _, 2, _ => rfl
  | 3, _, j + 3, hj => exact absurd hj (by omega)
  | 4, _, 0, _ => rfl
  | 4, _, 1, _ => rfl
  | 4, _, 2, _ => rfl
  | 4, _, 3, _ => rfl
  | 4, _, j + 4, hj => exact absurd hj (by omega)
  | 5, _, 0, _ => rfl
  | 5, _, 1, _ => rfl
  | 5, _, 2, _ => rfl
  | 5, _, 3, _ => rfl
  | 5, _, 4, _ => rfl
  | 5, _, j + 5, hj => exact absurd hj (by omega)
  | 6, _, 0, _ => rfl
  | 6, _, 1, _ => rfl
  | 6, _, 2, _ => rfl
  | 6, _, 3, _ => rfl
  | 6, _, 4, _ => rfl
  | 6, _, 5, _ => rfl
  | 6, _, j + 6, hj => exact absurd hj (by omega)
  | 7, _, 0, _ => rfl
  | 7, _, 1, _ => rfl
  | 7, _, 2, _ => rfl
  | 7, _, 3, _ => rfl
  | 7, _, 4, _ => rfl
  | 7, _, 5, _ => rfl
  | 7, _, 6, _ => rfl
  | 7, _, j + 7, hj => exact absurd hj (by omega)
  | 8, _, 0, _ => rfl
  | 8, _, 1, _ => rfl
  | 8, _, 2, _ => rfl
  | 8, _, 3, _ => rfl
  | 8, _, 4, _ => rfl
  | 8, _, 5, _ => rfl
  | 8, _, 6, _ => rfl
  | 8, _, 7, _ => rfl
  | 8, _, j + 8, hj => exact absurd hj (by omega)
  | 9, _, 0, _ => rfl
  | 9, _, 1, _ => rfl
  | 9, _, 2, _ => rfl
  | 9, _, 3, _ => rfl
  | 9, _, 4, _ => rfl
  | 9, _, 5, _ => rfl
  | 9, _, 6, _ => rfl
  | 9, _, 7, _ => rfl
  | 9, _, 8, _ => rfl
  | 9, _, j + 9, hj => exact absurd hj (by omega)
  | 10, _, 0, _ => rfl
  | 10, _, 1, _ => rfl
  | 10, _, 2, _ => rfl
  | 10, _, 3, _ => rfl
  | 10, _, 4, _ => rfl
  | 10, _, 5, _ => rfl
  | 10, _, 6, _ => rfl
  | 10, _, 7, _ => rfl
  | 10, _, 8, _ => rfl
  | 10, _, 9, _ => rfl
  | 10, _, j + 10, hj => exact absurd hj (by omega)
  | 0, _, j, hj => exact absurd hj (by omega)
theorem numsB_set (r : SR) {k : Nat} (h : k < 11) (x : Int) : ∀ n, n ≤ k → numsB (r.set k x) n = numsB r n
  | 0, _ => rfl
  | n + 1, hn => by rw [numsB_succ, numsB_succ, numsB_set r h x n (by omega), get_set_ne r h (by omega)]
theorem tkNums_take {t : Tst} (hb : Byt t.1) : ∀ k, k ≤ 11 → (tkNums t k).2.2 = false → t.1 = numsB (tkNums t k).1 k ++ (tkNums t k).2.1 ∧ t.2 = false ∧ Byt (tkNums t k).2.1
  | 0, _, h => ⟨rfl, h, hb⟩
  | k + 1, hk, h => by
    have h0 : (tk (tkNums t k).2 minI maxI).2.2 = false := h
    have h1 : (tkNums t k).2.2 = false := (tk_ok h0).1
    obtain ⟨e1, e2, e3⟩ := tkNums_take hb k (by omega) h1
    obtain ⟨a1, a2, a3, a4, a5⟩ := tk_take e3 h0
    refine ⟨?_, e2, a5⟩
    show t.1 = numsB ((tkNums t k).1.set k (tk (tkNums t k).2 minI maxI).1) (k + 1) ++ (tk (tkNums t k).2 minI maxI).2.1
    rw [numsB_succ, numsB_set _ (by omega) _ _ (Nat.le_refl _), get_set _ (by omega), List.append_assoc, ← a2]
    exact e1
theorem tkRow_take {t : Tst} (hb : Byt t.1) (h : (tkRow t).2.2.2 = false) : t.1 = rowB ((tkRow t).1, (tkRow t).2.1) ++ (tkRow t).2.2.1 ∧ t.2 = false ∧ Byt (tkRow t).2.2.1 := by
  obtain ⟨q, hq⟩ : ∃ q, tkT t 16 = q := ⟨_, rfl⟩
  unfold tkRow at *
  rw [hq] at h ⊢
  dsimp only at h ⊢
  have h1 : q.2.2 = false := by
    cases e : q.2.2 with
    | false => rfl
    | true =>
      have : ∀ k, (tkNums q.2 k).2.2 = true := fun k => by
        induction k with
        | zero => exact e
        | succ k ih =>
          show (tk (tkNums q.2 k).2 minI maxI).2.2 = true
          rw [tk_bad ih]
          exact ih
      rw [this 11] at h
      cases h
  obtain ⟨e1, e2, e3⟩ := tkT_take (t := t) (m := 16) hb (by rw [hq]; exact h1)
  rw [hq] at e1 e3
  obtain ⟨a1, a2, a3⟩ := tkNums_take e3 11 (by omega) h
  refine ⟨?_, e2, a3⟩
  unfold rowB
  dsimp only
  rw [List.append_assoc, ← a1]
  exact e1
theorem unpL_take : ∀ {n : Nat} {t : Tst} {last : Str} {B A : Stk} {t' : Tst}, unpL n t last B = some (A, t') → t'.2 = false → Byt t.1 → (∀ q ∈ B, q.1 = last ∨ q.1 < last) →
    ∃ C, A = B ++ C ∧ C.length = n ∧ t.1 = C.flatMap rowB ++ t'.1 ∧ t.2 = false ∧ (∀ p ∈ C, goodB p.1 = true ∧ SRok p.2) ∧ RiseS C ∧ ∀ p ∈ C, last < p.1
  | 0, t, last, B, A, t', h, h1, hb, hB => by
    unfold unpL at h
    injection h with h
    injection h with h2 h3
    subst h2 h3
    exact ⟨[], by simp, rfl, by simp, h1, by simp, List.Pairwise.nil, by simp⟩
  | n + 1, t, last, B, A, t', h, h1, hb, hB => by
    unfold unpL at h
    by_cases hm : rowMay last (tkRow t).1 (tkRow t).2.1 = true
    · rw [if_pos hm] at h
      unfold rowMay at hm
      simp only [Bool.and_eq_true, decide_eq_true_eq] at hm
      obtain ⟨⟨⟨m1, m2⟩, m3⟩, m4⟩ := hm
      have hlt : ∀ q ∈ B, q.1 < (tkRow t).1 := fun q hq => (hB q hq).elim (fun e => e ▸ m2) (fun e => str_trans e m2)
      rw [put_end hlt] at h
      have hbad : (tkRow t).2.2.2 = false ∨ (tkRow t).2.2.2 = true := by cases (tkRow t).2.2.2 <;> simp
      rcases hbad with hbf | hbt
      · obtain ⟨e1, e2, e3⟩ := tkRow_take hb hbf
        obtain ⟨C, c1, c2, c3, c4, c5, c6, c7⟩ := unpL_take h h1 e3 (fun q hq => by
          rcases List.mem_append.1 hq with e | e
          · exact .inr (hlt q e)
          · have : q = ((tkRow t).1, (tkRow t).2.1) := by simpa using e
            subst this
            exact .inl rfl)
        refine ⟨((tkRow t).1, (tkRow t).2.1) :: C, by rw [c1]; simp, by simp [c2], ?_, e2, ?_, ?_, ?_⟩
        · rw [List.flatMap_cons, List.append_assoc, ← c3]; exact e1
        · intro p hp
          rcases List.mem_cons.1 hp with rfl | hp
          · exact ⟨m1, SRok.of m4 m3⟩
          · exact c5 p hp
        · exact List.pairwise_cons.2 ⟨fun q hq => c7 q hq, c6⟩
        · intro p hp
          rcases List.mem_cons.1 hp with rfl | hp
          · exact m2
          · exact str_trans m2 (c7 p hp)
      · exfalso
        have hstay : ∀ (n : Nat) (s : Tst) (l : Str) (B' : Stk), s.2 = true → unpL n s l B' = some (A, t') → t'.2 = true := by
          intro n
          induction n with
          | zero => intro s l B' hs e; unfold unpL at e; injection e with e; injection e with e1 e2; rw [← e2]; exact hs
          | succ n ih =>
            intro s l B' hs e
            unfold unpL at e
            split at e
            · refine ih _ _ _ ?_ e
              cases hx : (tkRow s).2.2.2 with
              | true => rfl
              | false =>
                have hT : tkT s 16 = ([], s) := by unfold tkT; rw [tk_bad hs]; simp [hs]
                have : ∀ k, (tkNums s k).2.2 = true := fun k => by
                  induction k with
                  | zero => exact hs
                  | succ k ih =>
                    show (tk (tkNums s k).2 minI maxI).2.2 = true
                    rw [tk_bad ih]
                    exact ih
                have h9 := this 11
                unfold tkRow at hx
                rw [hT] at hx
                dsimp only at hx
                rw [h9] at hx
                cases hx
            · cases e
        rw [hstay _ _ _ _ hbt h] at h1
        cases h1
    · rw [if_neg hm] at h; cases h
theorem unpS_take {bs : List Int} {A : Stk} (hb : Byt bs) (h : unpS bs = some A) : SOk A ∧ packS A = bs := by
  unfold unpS at h
  obtain ⟨q, hq⟩ : ∃ q, tk (bs, false) 0 64 = q := ⟨_, rfl⟩
  rw [hq] at h
  cases e : unpL q.1.toNat q.2 [] [] with
  | none => rw [e] at h; cases h
  | some p =>
    obtain ⟨A', t'⟩ := p
    rw [e] at h
    dsimp only at h
    by_cases hd : doneT t'.1 t'.2 = 0
    · rw [if_pos hd] at h
      injection h with h
      subst h
      have hd2 : t'.2 = false ∧ t'.1 = [] := by
        unfold doneT at hd
        split at hd
        · cases hd
        · rename_i hn
          simp only [not_or, Decidable.not_not] at hn
          exact ⟨by simpa using hn.1, by simpa using hn.2⟩
      by_cases hqb : q.2.2 = false
      · have hbt := tk_take (t := (bs, false)) (a := 0) (b := 64) hb (by rw [hq]; exact hqb)
        rw [hq] at hbt
        obtain ⟨b1, b2, ⟨b3, b4⟩, b5, b6⟩ := hbt
        obtain ⟨C, c1, c2, c3, c4, c5, c6, c7⟩ := unpL_take e hd2.1 b6 (fun q hq => by cases hq)
        rw [List.nil_append] at c1
        subst c1
        refine ⟨⟨c6, fun p hp => (c5 p hp).1, fun p hp => (c5 p hp).2, by omega⟩, ?_⟩
        unfold packS
        rw [c2, show ((q.1.toNat : Nat) : Int) = q.1 by omega]
        rw [hd2.2, List.append_nil] at c3
        rw [← c3]
        exact b2.symm
      · exfalso
        have hqb : q.2.2 = true := by simpa using hqb
        have h0 := tk_bad0 (bs, false) 0 64 (by rw [hq]; exact hqb)
        rw [hq] at h0
        rw [h0] at e
        unfold unpL at e
        simp only [Int.toNat_zero] at e
        injection e with e
        injection e with e1 e2
        rw [← e2, hqb] at hd2
        cases hd2.1
    · rw [if_neg hd] at h; cases h
end Go.Proofs.Ytclgmnobockfnaa
namespace Go.Proofs.Ytclgmnobockfnaa
open Go.RowKit Go.Maps
theorem tkT_len (t : Tst) {m : Int} (hm : 0 ≤ m) : ((tkT t m).1.length : Int) ≤ m := by
  have h := tk_in t (a := 0) (b := m) (Int.le_refl _) hm
  unfold tkT
  dsimp only
  split <;> (try split) <;> simp [bS, List.length_take] <;> omega
/-- What Unpack leaves. -/
def UpP (w : World) (Z : Option Stk) (e : Ending) (w' : World) : Prop := Fr (fun _ => False) w w' ∧ match Z with
  | some A => ∃ g TS, e = .returned (.tuple #[.pointer (some ⟨g, 0, none⟩), .int .i64 0]) ∧ SA w' g TS A ∧ ∀ b, TS b → w.heap.size ≤ b
  | none => e = .returned (.tuple #[.pointer none, .int .i64 10])
def ZU (Z : Option Stk) (U : Option (Stk × Tst)) : Prop := match U with | none => Z = none | some (A, t) => Z = if doneT t.1 t.2 = 0 then some A else none
theorem rowCells {W : World} {b : Nat} {f0 f1 f2 f3 f4 f5 f6 f7 f8 f9 f10 : Int} (h : RowAt W b ⟨f0, f1, f2, f3, f4, f5, f6, f7, f8, f9, f10⟩) :
    W.cell? ⟨b, 0, none⟩ = some (.int .i64 f0) ∧ W.cell? ⟨b, 1, none⟩ = some (.int .i64 f1) ∧ W.cell? ⟨b, 2, none⟩ = some (.int .i64 f2) ∧ W.cell? ⟨b, 3, none⟩ = some (.int .i64 f3) ∧ W.cell? ⟨b, 4, none⟩ = some (.int .i64 f4) ∧ W.cell? ⟨b, 5, none⟩ = some (.int .i64 f5) ∧ W.cell? ⟨b, 6, none⟩ = some (.int .i64 f6) ∧ W.cell? ⟨b, 7, none⟩ = some (.int .i64 f7) ∧ W.cell? ⟨b, 8, none⟩ = some (.int .i64 f8) ∧ W.cell? ⟨b, 9, none⟩ = some (.int .i64 f9) ∧ W.cell? ⟨b, 10, none⟩ = some (.int .i64 f10) :=
  ⟨cell_obj h 0 _ rfl, cell_obj h 1 _ rfl, cell_obj h 2 _ rfl, cell_obj h 3 _ rfl, cell_obj h 4 _ rfl, cell_obj h 5 _ rfl, cell_obj h 6 _ rfl, cell_obj h 7 _ rfl, cell_obj h 8 _ rfl, cell_obj h 9 _ rfl, cell_obj h 10 _ rfl⟩
/-- On the way of Unpack: what is taken, what is left, what is laid. -/
structure UpI (w w1 : World) (gt : Nat) (TT : Nat → Prop) (gs s0 : Nat) (U : Option (Stk × Tst)) (n : Nat) (t : Tst) (last : Str) (B : Stk) (W : World) : Prop where
  tk : TK W gt TT t.1 t.2
  st : SA W gs (fun b => b = s0 ∨ b = s0 + 1) B
  fr : Fr (fun _ => False) w W
  rest : unpL n t last B = U
  len : B.length + n ≤ 64
  ok : okS last
set_option maxRecDepth 100000 in
set_option maxHeartbeats 8000000 in
theorem sUnpack (w : World) (v : Value) (bs : List Int) (h : Bs w v bs) (hl : (bs.length : Int) ≤ 140737488351232) (hb : Byt bs) (ho : ∀ b, v.ownBlock = some b → b < w.heap.size) :
    Calls Try.prog 14 #[v] w (UpP w (unpS bs)) := by
  obtain ⟨Z, hZ⟩ : ∃ Z, unpS bs = Z := ⟨_, rfl⟩
  rw [hZ]
  have HZ := Lib.hid hZ
  obtain ⟨n0, hn0⟩ : ∃ n0, w.heap.size = n0 := ⟨_, rfl⟩
  have HS := Lib.hid hn0
  have HTk := Lib.hid (cTake w v bs h hl hb)
  clear hZ h hl hb ho
  go_enter Try.func14, Try.ntmps14
  go_wp2_with (first
    | (go_at_call 44; refine HTk.out.mono ?_; rintro e w1 ⟨gt, TT, rfl, ht1, hf1, hl1⟩; have HT1 := Lib.hid ht1; have HF1 := Lib.hid hf1; have HL1 := Lib.hid hl1; clear ht1 hf1 hl1)
    | (go_at_call 10; refine (sNew _).mono ?_; rintro e w2 ⟨rfl, hs2, hf2, hz2⟩; have HS2 := Lib.hid hs2; have HF2 := Lib.hid hf2; have HZ2 := Lib.hid hz2; clear hs2 hf2 hz2)
    | (go_at_call 45; refine (xTk w2 gt TT (bs, false) 0 64 (HT1.out.fr HF2.out (fun _ _ h => h))).mono ?_; rintro e w3 ⟨rfl, ht3, hf3⟩; have HT3 := Lib.hid ht3; have HF3 := Lib.hid hf3; clear ht3 hf3))
  obtain ⟨q0, hq0⟩ : ∃ q, tk (bs, false) 0 64 = q := ⟨_, rfl⟩
  have hqi := tk_in (bs, false) (a := 0) (b := 64) (by omega) (by omega)
  rw [hq0] at hqi HT3 ⊢
  obtain ⟨N, hN⟩ : ∃ N : Nat, q0.1 = N := ⟨q0.1.toNat, by omega⟩
  have hUU : Hid (ZU Z (unpL N q0.2 [] [])) := Lib.hid (by
    have := HZ.out
    unfold unpS at this
    rw [hq0, hN] at this
    rw [show ((N : Int)).toNat = N by omega] at this
    unfold ZU
    cases e : unpL N q0.2 [] [] with
    | none => rw [e] at this; exact this.symm
    | some p => rw [e] at this; exact this.symm)
  obtain ⟨U, hU⟩ : ∃ U, unpL N q0.2 [] [] = U := ⟨_, rfl⟩
  rw [hU] at hUU
  rw [hN] at hqi ⊢
  have hz1 : Hid (w1.heap.size + 1 < w3.heap.size) := Lib.hid (by have := HF3.out.size; have := HZ2.out; omega)
  have hI0 : UpI w w1 gt TT (w1.heap.size + 1) w1.heap.size U N q0.2 [] [] w3 := ⟨HT3.out, HS2.out.fr HF3.out (fun b hb e => by have := HT1.out.lt b e; omega), (HF1.out.trans HF2.out).trans' HF3.out (fun b hb e => by have := HL1.out b e; have := HS.out; omega), hU, by simp; omega, by simp [okS]⟩
  have HI0 := Lib.hid hI0
  obtain ⟨s0, hs0⟩ : ∃ s0, w1.heap.size = s0 := ⟨_, rfl⟩
  have HLT : Hid (∀ b, TT b → b < s0) := Lib.hid (by rw [← hs0]; exact HT1.out.lt)
  have hs1 : Hid (n0 ≤ s0) := Lib.hid (by have := HF1.out.size; have := HS.out; omega)
  rw [hs0] at hI0 HI0 hz1 ⊢
  have HQ := Lib.hid hq0; have HNN := Lib.hid hN; have HU := Lib.hid hU
  have hN64 : (N : Int) ≤ 64 := hqi.2
  clear HTk hI0 hq0 hN hU HF1 HT1 HS2 HF2 HZ2 HT3 HF3 hs0 hqi
  go_loopw [16, 6] (fun i ls wr => ∃ (k : Nat) (t : Tst) (last : Str) (B : Stk), k ≤ N ∧ i = .int .i64 k ∧ ls = vS last ∧ UpI w w1 gt TT (s0 + 1) s0 U (N - k) t last B wr) (fun i _ _ => N - (intOf i).toNat)
  case atStart => exact ⟨0, q0.2, [], [], Nat.zero_le _, rfl, rfl, HI0.out⟩
  case round =>
    obtain ⟨k, t, last, B, hk, rfl, rfl, hI⟩ := hrel
    have HI := Lib.hid hI
    clear hI
    by_cases hlt : k < N
    · have hlI : (k : Int) < N := by omega
      have hrest : Hid (unpL (N - k) t last B = U) := Lib.hid HI.out.rest
      obtain ⟨T1, hT1⟩ : ∃ T, tkT t 16 = T := ⟨_, rfl⟩
      have hTx := Lib.hid (cTText wr gt TT t 16 HI.out.tk (by omega))
      rw [hT1] at hTx
      have hgl := tkT_len t (m := 16) (by omega)
      rw [hT1] at hgl
      obtain ⟨gd, t1⟩ := T1
      dsimp only at hTx hgl
      have HT1 := Lib.hid hT1; have HGL := Lib.hid hgl
      clear hT1 hgl
      go_wp2_with (first
        | (go_at_call 46; refine hTx.out.mono ?_; rintro e w4 ⟨rfl, ht4, hf4⟩; have HT4 := Lib.hid ht4; have HF4 := Lib.hid hf4; clear ht4 hf4)
        | (go_at_call 42; refine (sNumbers _ _).mono ?_; rintro e w6 ⟨rfl, hf6⟩; have HF6 := Lib.hid hf6; clear hf6))
      obtain ⟨rb, hrb⟩ : ∃ rb, w4.heap.size = rb := ⟨_, rfl⟩
      have hrow0 : RowAt (w4.alloc (.cells SR.zero.cs 69)) w4.heap.size SR.zero := heap_new _ _
      have hrow6 := HF6.out.at_ hrow0 (fun h => h)
      have hf46 : Fr (fun _ => False) w4 w6 := ((Fr.refl _ w4).alloc _).trans HF6.out
      have hT6 := HT4.out.fr hf46 (fun _ _ h => h)
      have hnT : Hid (¬ TT rb) := Lib.hid (fun e => by have := HT4.out.lt _ e; omega)
      rw [hrb] at hrow6 ⊢
      obtain ⟨Pt, hPt⟩ : ∃ Pt, ptrs rb = Pt := ⟨_, rfl⟩
      rw [hPt]
      have HPT := Lib.hid hPt; have HRW0 := Lib.hid hrow6; have HF46 := Lib.hid hf46; have HT6 := Lib.hid hT6; have HRB := Lib.hid hrb
      clear hrow0 hrow6 hf46 hT6 hPt hrb HF6 hTx HT4
      have hzr : s0 + 1 < wr.heap.size := by have := HI.out.st.lt (s0 + 1) (.inr rfl); exact this
      obtain ⟨wo, hwo⟩ : ∃ wo, wr = wo := ⟨_, rfl⟩
      rw [hwo] at HI HF4 hzr
      have HWO := Lib.hid hzr
      clear hwo hzr
      go_loopw [22] (fun i wq => ∃ j : Nat, j ≤ 11 ∧ i = .int .i64 j ∧ TK wq gt TT (tkNums t1 j).2.1 (tkNums t1 j).2.2 ∧ RowAt wq rb (tkNums t1 j).1 ∧ Fr (fun b => TT b ∨ b = rb) w6 wq) (fun i _ => 11 - (intOf i).toNat)
      case atStart => exact ⟨0, Nat.zero_le _, rfl, HT6.out, HRW0.out, Fr.refl _ _⟩
      case round =>
        obtain ⟨j, hj, rfl, hTj, hRj, hFj⟩ := hrel
        by_cases hlj : j < 11
        · have hix := idxPtr wr rb hlj
          rw [HPT.out] at hix
          have hlJ : (j : Int) < 11 := by omega
          have hnum := Lib.hid (xTk wr gt TT (tkNums t1 j).2 minI maxI hTj)
          obtain ⟨R, hR⟩ : ∃ R, (tkNums t1 j).1 = R := ⟨_, rfl⟩
          obtain ⟨q, hq⟩ : ∃ q, tk (tkNums t1 j).2 minI maxI = q := ⟨_, rfl⟩
          have hnext : Hid (tkNums t1 (j + 1) = (R.set j q.1, q.2)) := Lib.hid (by show ((tkNums t1 j).1.set j (tk (tkNums t1 j).2 minI maxI).1, (tk (tkNums t1 j).2 minI maxI).2) = _; rw [hR, hq])
          rw [hR] at hRj
          rw [hq] at hnum
          have HRj := Lib.hid hRj; have HFj := Lib.hid hFj
          clear hTj hRj hFj hR hq
          go_wp2_with (go_at_call 45; refine hnum.out.mono ?_; rintro e wz ⟨rfl, htz, hfz⟩; have hRz := hfz.at_ HRj.out hnT.out; have hcz := cell_obj hRz j _ (R.cs_get hlj); have hzz := obj_frozen hRz j; have HTZ := Lib.hid htz; have HFZ := Lib.hid hfz; have HRZ := Lib.hid hRz; clear htz hfz hRz)
          go_roundw
          case rel =>
            have hset := obj_set HRZ.out j (.int .i64 q.1)
            rw [R.cs_set hlj] at hset
            have hfs : Fr (fun b => b = rb) wz (wz.setCell ⟨rb, j, none⟩ (.int .i64 q.1)) := (Fr.refl (fun b => b = rb) wz).setCell (p := ⟨rb, j, none⟩) (fun _ => rfl) _
            refine ⟨j + 1, by omega, by go_num, ?_, ?_, ?_⟩
            · rw [hnext.out]; exact HTZ.out.fr hfs (fun b hb e => hnT.out (e ▸ hb))
            · rw [hnext.out]; exact hset
            · exact (HFj.out.trans (HFZ.out.mono (fun _ _ e => .inl e))).trans (hfs.mono (fun _ _ e => .inr e))
          case measure => simp [intOf]; omega
        · obtain rfl : j = 11 := by omega
          obtain ⟨RT, hRT⟩ : ∃ RT, tkNums t1 11 = RT := ⟨_, rfl⟩
          rw [hRT] at hTj hRj
          have htr : Hid (tkRow t = (gd, RT)) := Lib.hid (by unfold tkRow; rw [HT1.out, hRT])
          obtain ⟨R, t2⟩ := RT
          dsimp only at hTj hRj
          have hokg : Hid (okS gd) := Lib.hid (by have := HGL.out; unfold okS maxLen; omega)
          obtain ⟨M, hM⟩ : ∃ M, N - k = M + 1 := ⟨N - k - 1, by omega⟩
          have hstep : Hid (U = if rowMay last gd R = true then unpL M t2 gd (putS ktS.lt B gd R) else none) := Lib.hid (by
            rw [← hrest.out, hM]
            show (if rowMay last (tkRow t).1 (tkRow t).2.1 = true then unpL M (tkRow t).2.2 (tkRow t).1 (putS ktS.lt B (tkRow t).1 (tkRow t).2.1) else none) = _
            rw [htr.out])
          have hfw : Hid (Fr (fun b => TT b ∨ rb ≤ b) wo wr) := Lib.hid (by
            have h1 := HF4.out
            have h2 := HF46.out
            have hs := HRB.out
            exact ((h1.mono (S' := fun b => TT b ∨ rb ≤ b) (fun b _ e => .inl e)).trans (h2.mono (fun b _ e => e.elim))).trans (hFj.mono (fun b _ e => e.elim .inl (fun e => .inr (by omega)))))
          have HRW := Lib.hid hRj; have HTj := Lib.hid hTj; have HMM := Lib.hid hM
          clear hTj hRj hFj hRT hM hrest
          obtain ⟨f0, f1, f2, f3, f4, f5, f6, f7, f8, f9, f10⟩ := R
          have HFQ : Hid (Fr (fun _ => False) w wr) := Lib.hid (HI.out.fr.trans' hfw.out (fun b hb e => by have := HL1.out; have := HI.out.fr.size; have := HRB.out; have := HF4.out.size; have := HS.out; exact e.elim (fun e => by have := HL1.out b e; omega) (fun e => by omega)))
          have hbad : Hid (rowMay last gd ⟨f0, f1, f2, f3, f4, f5, f6, f7, f8, f9, f10⟩ = false → Z = none) := Lib.hid (fun e => by
            have h1 := hstep.out
            rw [e] at h1
            have h2 := hUU.out
            rw [h1] at h2
            exact h2)
          obtain ⟨bal, hbal⟩ : ∃ b, (SR.mk f0 f1 f2 f3 f4 f5 f6 f7 f8 f9 f10).bal = b := ⟨_, rfl⟩
          obtain ⟨ri, hri⟩ : ∃ b, (SR.mk f0 f1 f2 f3 f4 f5 f6 f7 f8 f9 f10).right = b := ⟨_, rfl⟩
          have hBal : Hid (∀ W, Calls Try.prog 17 #[.agg #[.int .i64 f0, .int .i64 f1, .int .i64 f2, .int .i64 f3], .agg #[.int .i64 f4, .int .i64 f5, .int .i64 f6, .int .i64 f7, .int .i64 f8, .int .i64 f9, .int .i64 f10]] W fun e w' => e = .returned (.bool bal) ∧ Fr (fun _ => False) W w') := Lib.hid (fun W => by rw [← hbal]; exact sBalanced W ⟨f0, f1, f2, f3, f4, f5, f6, f7, f8, f9, f10⟩)
          by_cases hg : goodB gd = true
          · rcases str_tri last gd with hlt2 | heq | hgt
            · have q1 : Op.bytesLess gd last = false := by rw [bytesLess_eq]; simpa using str_asym hlt2
              have q2 : (gd == last) = false := by
                simp only [beq_eq_false_iff_ne, ne_eq]
                rintro rfl; exact str_irr _ hlt2
              have HL2 := Lib.hid hlt2
              clear hlt2
              cases bal with
              | false =>
                have hZ0 := Lib.hid (hbad.out (by unfold rowMay; rw [hbal]; simp))
                clear hbal
                go_wp2_with (first
                  | (go_at_call 47; refine (iGood _ gd hokg.out).mono ?_; rw [hg]; rintro e w7 ⟨rfl, hf7⟩; have hr7 := hf7.at_ HRW.out (fun h => h); have HR7 := Lib.hid hr7; obtain ⟨d0, d1, d2, d3, d4, d5, d6, d7, d8, d9, d10⟩ := rowCells hr7; have HF7 := Lib.hid hf7; clear hr7 hf7)
                  | (go_at_call 17; refine (hBal.out _).mono ?_; rintro e w8 ⟨rfl, hf8⟩; have HF8 := Lib.hid hf8; have HR8 := Lib.hid (hf8.at_ HR7.out (fun h => h)); clear hf8)
                  | (go_at_call 38; refine (sRight _ _ _ HR8.out).mono ?_; rw [HRI.out]; rintro e w9 ⟨rfl, hf9⟩; have HF9 := Lib.hid hf9; clear hf9))
                go_ret2
                exact ⟨(HFQ.out.trans HF7.out).trans HF8.out, by rw [hZ0.out]; rfl⟩
              | true =>
                cases ri with
                | false =>
                  have hZ0 := Lib.hid (hbad.out (by unfold rowMay; rw [hri]; simp))
                  have HRI := Lib.hid hri
                  clear hbal hri
                  go_wp2_with (first
                    | (go_at_call 47; refine (iGood _ gd hokg.out).mono ?_; rw [hg]; rintro e w7 ⟨rfl, hf7⟩; have hr7 := hf7.at_ HRW.out (fun h => h); have HR7 := Lib.hid hr7; obtain ⟨d0, d1, d2, d3, d4, d5, d6, d7, d8, d9, d10⟩ := rowCells hr7; have HF7 := Lib.hid hf7; clear hr7 hf7)
                    | (go_at_call 17; refine (hBal.out _).mono ?_; rintro e w8 ⟨rfl, hf8⟩; have HF8 := Lib.hid hf8; have HR8 := Lib.hid (hf8.at_ HR7.out (fun h => h)); clear hf8)
                    | (go_at_call 38; refine (sRight _ _ _ HR8.out).mono ?_; rw [HRI.out]; rintro e w9 ⟨rfl, hf9⟩; have HF9 := Lib.hid hf9; clear hf9))
                  go_ret2
                  exact ⟨((HFQ.out.trans HF7.out).trans HF8.out).trans HF9.out, by rw [hZ0.out]; rfl⟩
                | true =>
                  have hyes : Hid (rowMay last gd ⟨f0, f1, f2, f3, f4, f5, f6, f7, f8, f9, f10⟩ = true) := Lib.hid (by unfold rowMay; rw [hbal, hri, hg, decide_eq_true HL2.out]; rfl)
                  have HRI := Lib.hid hri
                  clear hbal hri
                  go_wp2_with (first
                    | (go_at_call 47; refine (iGood _ gd hokg.out).mono ?_; rw [hg]; rintro e w7 ⟨rfl, hf7⟩; have hr7 := hf7.at_ HRW.out (fun h => h); have HR7 := Lib.hid hr7; obtain ⟨d0, d1, d2, d3, d4, d5, d6, d7, d8, d9, d10⟩ := rowCells hr7; have HF7 := Lib.hid hf7; clear hr7 hf7)
                    | (go_at_call 17; refine (hBal.out _).mono ?_; rintro e w8 ⟨rfl, hf8⟩; have HF8 := Lib.hid hf8; have HR8 := Lib.hid (hf8.at_ HR7.out (fun h => h)); clear hf8)
                    | (go_at_call 38; refine (sRight _ _ _ HR8.out).mono ?_; rw [HRI.out]; rintro e w9 ⟨rfl, hf9⟩; have HF9 := Lib.hid hf9; clear hf9))
                  have hF : Fr (fun _ => False) wr w9.drew := ((HF7.out.trans HF8.out).trans HF9.out).drew
                  have hB3 : RowAt w9.drew rb ⟨f0, f1, f2, f3, f4, f5, f6, f7, f8, f9, f10⟩ := hF.at_ HRW.out (fun h => h)
                  have hrs : Hid (s0 + 1 < rb) := Lib.hid (by have := hz1.out; have := HRB.out; have := HF4.out.size; have := HWO.out; omega)
                  have hsA := (HI.out.st.fr hfw.out (fun b hb e => by have := hrs.out; exact e.elim (fun e => by have := HLT.out b e; omega) (fun e => by omega))).fr hF (fun _ _ h => h)
                  have hmm : ∃ m, w9.drew.heap[s0 + 1]? = some (.cells #[.map (some m)] 64) ∧ Mp Try.prog w9.drew 9 ktS SR.enc m B ∧ (m = s0 ∨ m = s0 + 1) := hsA.ex
                  obtain ⟨m, hgc, hmp, hTm⟩ := hmm
                  obtain ⟨w5, hst5, hm5, ht5⟩ := hmp.store kS Try.underlying62 (by have := HI.out.len; omega) hokg.out (SR.mk f0 f1 f2 f3 f4 f5 f6 f7 f8 f9 f10)
                  have hne : s0 + 1 ≠ m := map_ne_cells hmp hgc
                  have hltA := hsA.lt
                  obtain ⟨d0, d1, d2, d3, d4, d5, d6, d7, d8, d9, d10⟩ := rowCells hB3
                  have cg := cell_obj hgc 0 (.map (some m)) rfl
                  have hst6 : (Instr.mapUpdate 62 (.map (some m)) (vS gd) (.agg #[.int .i64 f0, .int .i64 f1, .int .i64 f2, .int .i64 f3, .int .i64 f4, .int .i64 f5, .int .i64 f6, .int .i64 f7, .int .i64 f8, .int .i64 f9, .int .i64 f10])).run Try.prog w9.drew = .ok () w5 := hst5
                  clear hst5
                  have HF := Lib.hid hF; have HM5 := Lib.hid hm5; have HT5 := Lib.hid ht5; have HGC := Lib.hid hgc; have HTM := Lib.hid hTm; have HNE := Lib.hid hne; have HLA := Lib.hid hltA
                  refine wp_region_still_tail 6 (by kernel_rfl) (by kernel_rfl) ?_
                  simp only [List.take_succ_cons, List.take_zero, List.drop_succ_cons, List.drop_zero]
                  change wpStill _ _ w9.drew (fun a' => wpList _ _ _ _ a' w9.drew) _ _
                  clear hF hB3 hsA hgc hmp hTm hm5 ht5 hne hltA
                  generalize w9.drew = V at *
                  repeat still_step
                  refine wpStill_nil ?_
                  go_wp2_with fail
                  have hF5 : Fr (fun b => b = m) wr w5 := (HF.out.mono (fun _ _ h => h.elim)).trans' (Fr.turned (S := fun b => b = m) HT5.out rfl) (fun b _ e => e)
                  have hF5v : Fr (fun b => b = m) V w5 := Fr.turned (S := fun b => b = m) HT5.out rfl
                  have hms : s0 ≤ m := by have := HTM.out; omega
                  go_roundw
                  case rel =>
                    refine ⟨k + 1, t2, gd, putS ktS.lt B gd ⟨f0, f1, f2, f3, f4, f5, f6, f7, f8, f9, f10⟩, by omega, by go_num, rfl, ?_⟩
                    refine ⟨HTj.out.fr hF5 (fun b hb e => by have := HLT.out b hb; omega), ⟨⟨m, hF5v.at_ HGC.out HNE.out, HM5.out, HTM.out⟩, .inr rfl, fun b hb => Nat.lt_of_lt_of_le (HLA.out b hb) hF5v.size⟩, HFQ.out.trans' hF5 (fun b hb e => by have := hs1.out; have := HS.out; omega), ?_, ?_, hokg.out⟩
                    · have h1 := hstep.out
                      rw [if_pos hyes.out] at h1
                      rw [show N - (k + 1) = M by have := HMM.out; omega]
                      exact h1.symm
                    · have := putK_len ktS.lt B gd (SR.mk f0 f1 f2 f3 f4 f5 f6 f7 f8 f9 f10)
                      have := HI.out.len
                      omega
                  case measure => simp [intOf]; omega
            · have hZ0 := Lib.hid (hbad.out (by unfold rowMay; rw [heq, decide_eq_false (str_irr gd)]; simp))
              have q2 : (gd == last) = true := by simp [heq]
              clear hbal heq
              go_wp2_with (first
                | (go_at_call 47; refine (iGood _ gd hokg.out).mono ?_; rw [hg]; rintro e w7 ⟨rfl, hf7⟩; have hr7 := hf7.at_ HRW.out (fun h => h); have HR7 := Lib.hid hr7; obtain ⟨d0, d1, d2, d3, d4, d5, d6, d7, d8, d9, d10⟩ := rowCells hr7; have HF7 := Lib.hid hf7; clear hr7 hf7)
                | (go_at_call 17; refine (hBal.out _).mono ?_; rintro e w8 ⟨rfl, hf8⟩; have HF8 := Lib.hid hf8; have HR8 := Lib.hid (hf8.at_ HR7.out (fun h => h)); clear hf8)
                | (go_at_call 38; refine (sRight _ _ _ HR8.out).mono ?_; rw [HRI.out]; rintro e w9 ⟨rfl, hf9⟩; have HF9 := Lib.hid hf9; clear hf9))
              go_ret2
              exact ⟨HFQ.out.trans HF7.out, by rw [hZ0.out]; rfl⟩
            · have hZ0 := Lib.hid (hbad.out (by unfold rowMay; rw [decide_eq_false (str_asym hgt)]; simp))
              have q1 : Op.bytesLess gd last = true := by rw [bytesLess_eq]; simpa using hgt
              clear hbal hgt
              go_wp2_with (first
                | (go_at_call 47; refine (iGood _ gd hokg.out).mono ?_; rw [hg]; rintro e w7 ⟨rfl, hf7⟩; have hr7 := hf7.at_ HRW.out (fun h => h); have HR7 := Lib.hid hr7; obtain ⟨d0, d1, d2, d3, d4, d5, d6, d7, d8, d9, d10⟩ := rowCells hr7; have HF7 := Lib.hid hf7; clear hr7 hf7)
                | (go_at_call 17; refine (hBal.out _).mono ?_; rintro e w8 ⟨rfl, hf8⟩; have HF8 := Lib.hid hf8; have HR8 := Lib.hid (hf8.at_ HR7.out (fun h => h)); clear hf8)
                | (go_at_call 38; refine (sRight _ _ _ HR8.out).mono ?_; rw [HRI.out]; rintro e w9 ⟨rfl, hf9⟩; have HF9 := Lib.hid hf9; clear hf9))
              go_ret2
              exact ⟨HFQ.out.trans HF7.out, by rw [hZ0.out]; rfl⟩
          · have hg : goodB gd = false := by simpa using hg
            have hZ0 := Lib.hid (hbad.out (by unfold rowMay; rw [hg]; simp))
            clear hbal
            go_wp2_with (first
              | (go_at_call 47; refine (iGood _ gd hokg.out).mono ?_; rw [hg]; rintro e w7 ⟨rfl, hf7⟩; have hr7 := hf7.at_ HRW.out (fun h => h); have HR7 := Lib.hid hr7; obtain ⟨d0, d1, d2, d3, d4, d5, d6, d7, d8, d9, d10⟩ := rowCells hr7; have HF7 := Lib.hid hf7; clear hr7 hf7)
              | (go_at_call 17; refine (hBal.out _).mono ?_; rintro e w8 ⟨rfl, hf8⟩; have HF8 := Lib.hid hf8; have HR8 := Lib.hid (hf8.at_ HR7.out (fun h => h)); clear hf8)
              | (go_at_call 38; refine (sRight _ _ _ HR8.out).mono ?_; rw [HRI.out]; rintro e w9 ⟨rfl, hf9⟩; have HF9 := Lib.hid hf9; clear hf9))
            go_ret2
            exact ⟨HFQ.out.trans HF7.out, by rw [hZ0.out]; rfl⟩
    · have : k = N := by omega
      subst this
      have hZe : Hid (Z = if doneT t.1 t.2 = 0 then some B else none) := Lib.hid (by
        have h1 := HI.out.rest
        rw [Nat.sub_self] at h1
        have h2 := hUU.out
        rw [← h1] at h2
        exact h2)
      have hDone := Lib.hid (cTDone wr gt TT t.1 t.2 HI.out.tk)
      obtain ⟨Dn, hDn⟩ : ∃ D, doneT t.1 t.2 = D := ⟨_, rfl⟩
      rw [hDn] at hZe hDone
      clear hDn
      by_cases hd : Dn = 0
      · subst hd
        have hz := hZe.out
        rw [if_pos rfl] at hz
        have HZE := Lib.hid hz
        clear hz
        go_wp2_with (go_at_call 48; refine hDone.out.mono ?_; rintro e w4 ⟨rfl, rfl⟩)
        go_ret2
        refine ⟨HI.out.fr, ?_⟩
        rw [HZE.out]
        exact ⟨_, _, rfl, HI.out.st, fun b hb => by have := hs1.out; have := HS.out; omega⟩
      · have hz := hZe.out
        rw [if_neg hd] at hz
        have HZE := Lib.hid hz
        clear hz
        go_wp2_with (go_at_call 48; refine hDone.out.mono ?_; rintro e w4 ⟨rfl, rfl⟩)
        go_ret2
        exact ⟨HI.out.fr, by rw [HZE.out]; rfl⟩
end Go.Proofs.Ytclgmnobockfnaa
