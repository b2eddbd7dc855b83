/- Texts of this claim, joined: cells.Maker: Num, Flag, Done; slices.Clone; cells.First: a number read; cells.Taker: Take, may, fault, Num, Flag, Done; cells.Taker: Flag, Done; what a cell reads as, plainly; cells: what First reads is what Num wrote: plainly; ident.put: a row's cells; ident.read: a row out of cells; ident.Table.Pack: the walk; ident and its document (entrepotref09): plain facts: rising lists; append(row, source...) where the source may be nil, empty or not; rows of cells read out of memory. -/
import Derived.Test.YtakjiicnbocjeaaIdUnpacksM2
import Derived.Handy
import Derived.Lib.SliceRun
import Derived.Laws.BytesArg
import Derived.Deep.Slices
import Derived.Deep.RegionHeld3
import Derived.Test.YtakjiicnbocjeaaIdUnpacksM1
import Derived.Maps.AppendAt
import Derived.OwnWalk
namespace Go.Proofs.Ytakjiicnbocjeaa
open Go.RowKit Go.Maps
theorem Bs.at0 {w : World} {v : Value} {bs : List Int} (h : Bs w v bs) (h0 : 0 < bs.length) : ∃ ad c, v = .slice (some ad) bs.length c := by
  obtain ⟨_, a, c, e, h1⟩ := h
  obtain ⟨x, hx⟩ : ∃ x, bs[0]? = some x := ⟨bs[0], List.getElem?_eq_getElem h0⟩
  obtain ⟨_, _, ad, ea, _⟩ := h1 0 x hx
  exact ⟨ad, c, by rw [e, ea]⟩
theorem Parts.one {w : World} {v : Value} {bs : List Int} {B : Nat} (h : Bn B w v bs) (h0 : 0 < bs.length) (b : Nat) (hb : b = w.heap.size) : Parts (w.alloc (.cells #[v] 28)) (.slice (some ⟨b, 0, none⟩) 1 1) [(v, bs)] := by
  subst hb
  obtain ⟨ad, c, e⟩ := h.1.at0 h0
  refine ⟨_, _, rfl, fun i p hp => ?_⟩
  match i, hp with
  | 0, hp =>
    cases hp
    refine ⟨?_, h.1.fr ((Fr.refl (fun _ => False) _).alloc _) (fun _ h => h.elim), ad, _, c, e⟩
    exact cell_obj (heap_new _ _) 0 v rfl
set_option maxRecDepth 100000 in
theorem cMNum (w : World) (g : Nat) (TS : Nat → Prop) (bs : List Int) (long : Bool) (n : Int) (h : MK w g TS bs long) (hn : okI n) :
    Calls Try.prog 34 #[.pointer (some ⟨g, 0, none⟩), .int .i64 n] w fun e w' => e = .returned (.pointer (some ⟨g, 0, none⟩)) ∧ ∃ TS', MK w' g TS' (putB bs long (numB n)) (putL bs long (numB n)) ∧ Stp TS w w' TS' := by
  have hl := numB_len hn
  go_enter Try.func34, Try.ntmps34
  go_wp2_with fail
  refine (cNum w n hn).mono ?_
  rintro e w1 ⟨v, rfl, hb, hB⟩
  obtain ⟨ad, c, rfl⟩ := hb.1.at0 (by omega)
  have hP := Parts.one hb (by omega) w1.heap.size rfl
  have hF : Fr (fun _ => False) w (w1.alloc (.cells #[.slice (some ad) (numB n).length c] 28)) := ((Fr.below hB).mono (fun _ _ h => h)).alloc _
  have hM := h.fr hF (fun _ _ h => h)
  have hcat : catL [(Value.slice (some ad) (numB n).length c, numB n)] = numB n := by simp [catL]
  have HP := Lib.hid hP; have HM := Lib.hid hM; have HF := Lib.hid hF; have HC := Lib.hid hcat; have HL := Lib.hid hl
  clear hb hP hM hF hcat hB h hl
  go_wp2_with fail
  refine (cPut _ g TS bs long _ _ HM.out HP.out (by simp) (by rw [HC.out]; have := HL.out; omega) (by rw [HC.out]; have := HL.out; omega)).mono ?_
  rw [HC.out]
  rintro e w2 ⟨rfl, TS', hM2, hs⟩
  go_wp2_with fail
  go_ret
  exact ⟨rfl, TS', hM2, (Stp.refl HF.out).trans hs⟩
theorem cMFlag (w : World) (g : Nat) (TS : Nat → Prop) (bs : List Int) (long : Bool) (b : Bool) (h : MK w g TS bs long) :
    Calls Try.prog 57 #[.pointer (some ⟨g, 0, none⟩), .bool b] w fun e w' => e = .returned (.pointer (some ⟨g, 0, none⟩)) ∧ ∃ TS', MK w' g TS' (putB bs long [if b then 1 else 0]) (putL bs long [if b then 1 else 0]) ∧ Stp TS w w' TS' := by
  have h1 := cMNum w g TS bs long 1 h ⟨by decide, by decide⟩
  have h0 := cMNum w g TS bs long 0 h ⟨by decide, by decide⟩
  rw [show numB 1 = [1] from rfl] at h1
  rw [show numB 0 = [0] from rfl] at h0
  have H1 := Lib.hid h1; have H0 := Lib.hid h0
  clear h1 h0 h
  cases b with
  | true =>
    go_enter Try.func57, Try.ntmps57
    go_wp2_with fail
    refine H1.out.mono ?_
    rintro e w1 ⟨rfl, TS', hM, hs⟩
    go_wp2_with fail
    go_ret
    exact ⟨rfl, TS', hM, hs⟩
  | false =>
    go_enter Try.func57, Try.ntmps57
    go_wp2_with fail
    refine H0.out.mono ?_
    rintro e w1 ⟨rfl, TS', hM, hs⟩
    go_wp2_with fail
    go_ret
    exact ⟨rfl, TS', hM, hs⟩
set_option maxRecDepth 100000 in
theorem cClone (w : World) (v : Value) (bs : List Int) (h : Bs w v bs) (hl : (bs.length : Int) ≤ 140737488351232) : Calls Try.prog 58 #[v] w fun e w' =>
    ∃ v', e = .returned v' ∧ w'.ownsRow w.heap.size 5 1 v' bs.length (u8s bs) ∧ Below w.heap.size w w' := by
  obtain ⟨i0, hi', hz0, hz1, hz2⟩ := info_parts infoU8
  obtain ⟨hb1, a, c, rfl, hbx⟩ := id h
  obtain ⟨n, hn⟩ : ∃ n, bs.length = n := ⟨_, rfl⟩
  have HN := Lib.hid hn
  rw [hn] at hl hb1 ⊢
  clear hn
  have hq := fun (w : World) (a : Option Addr) (n c n' c' : Nat) => Lib.run_eql_slice_nil (P := Try.prog) w 28 _ a n c n' c' Try.underlying28
  cases a with
  | none =>
    have h0 : n = 0 := by
      rcases Nat.eq_zero_or_pos n with h0 | h0
      · exact h0
      · obtain ⟨ad, c', e⟩ := h.at0 (by have := HN.out; omega)
        injection e with e _ _; cases e
    subst h0
    have hbe : bs = [] := List.eq_nil_of_length_eq_zero HN.out
    subst hbe
    clear h hbx
    go_enter Try.func58, Try.ntmps58
    go_wp2_with fail
    go_ret
    exact ⟨_, rfl, World.ownsRow_nil _ _ _ _, Below.refl _ _⟩
  | some ad =>
    have hown : (w.alloc (.cells #[] 5)).ownsRow w.heap.size 5 1 (.slice (some ⟨w.heap.size, 0, none⟩) 0 0) 0 [] := World.ownsRow_made w #[] 0 (Nat.le_refl _) (Nat.zero_le _) rfl
    have hnews : ∀ (i : Nat) (u : Value), (u8s bs)[i]? = some u → (w.alloc (.cells #[] 5)).cell? (ad.add i) = some u := fun i u hu => by
      unfold u8s at hu
      rw [List.getElem?_map] at hu
      obtain ⟨x, hx, rfl⟩ := Option.map_eq_some_iff.1 hu
      obtain ⟨-, -, ad', e, hcell⟩ := hbx i x hx
      cases e
      exact ((Fr.refl (fun _ => False) w).alloc _).cell hcell (fun h => h)
    have hall : ∀ u ∈ u8s bs, u.oneCell' = true := fun u hu => by
      unfold u8s at hu
      obtain ⟨x, _, rfl⟩ := List.mem_map.1 hu
      rfl
    have hul : (u8s bs).length = n * 1 := by have := HN.out; simp [u8s]; exact this
    have HNEWS := Lib.hid hnews; have HALL := Lib.hid hall; have HUL := Lib.hid hul; have HO := Lib.hid hown
    clear hnews hall hul hown hbx h
    go_enter Try.func58, Try.ntmps58
    go_wp2_with (at_builtin; refine wpList_append_own_at _ rfl _ _ 28 rfl w.heap.size 5 i0 (.int .u8 0) 1 1 Try.underlying28 hi' hz0 hz1 hz2 rfl (by decide) (.slice (some ⟨w.heap.size, 0, none⟩) 0 0) 0 [] rfl HO.out ad n _ (u8s bs) rfl HUL.out HNEWS.out HALL.out (by unfold maxLen; omega) (by omega) (by simp) ?_; intro v' w5 hown' hgrow _ hat)
    go_ret
    refine ⟨_, rfl, by simpa using hown', ((Below.refl _ w).alloc (Nat.le_refl _) _).grown hgrow (by simp) (fun r hr => by cases hr; exact Nat.le_refl _)⟩
/-- A maker's end: its bytes anew, or an error. -/
theorem cMDone (w : World) (g : Nat) (TS : Nat → Prop) (bs : List Int) (long : Bool) (h : MK w g TS bs long) (hb : ∀ x ∈ bs, 0 ≤ x ∧ x < 256) :
    Calls Try.prog 38 #[.pointer (some ⟨g, 0, none⟩)] w fun e w' => Below w.heap.size w w' ∧ ∃ v, e = .returned (.tuple #[v, .int .i64 (if long then 3 else 0)]) ∧ w'.ownsRow w.heap.size 5 1 v (if long then [] else bs).length (u8s (if long then [] else bs)) := by
  obtain ⟨⟨vm, h1, h2, h3⟩, h4, h5, h6⟩ := id h
  obtain ⟨am, cm, rfl⟩ : ∃ a c, vm = .slice a bs.length c := by
    rcases h2.2 with ⟨e1, e2⟩ | ⟨_, _, _, e1, _⟩
    · exact ⟨_, _, by rw [e1, e2]⟩
    · exact ⟨_, _, e1⟩
  have hBs := (Bs.own h2 hb).1
  have hC := cClone w _ _ hBs (by omega)
  have b0 := cell_obj h1 0 (.slice am bs.length cm) rfl
  have b1 := cell_obj h1 1 (.bool long) rfl
  have HC := Lib.hid hC
  clear h hC hBs h2 h3 hb h4 h5 h1
  cases long with
  | true =>
    go_enter Try.func38, Try.ntmps38
    go_wp2_with fail
    go_returns
    exact ⟨Below.refl _ _, _, rfl, World.ownsRow_nil _ _ _ _⟩
  | false =>
    go_enter Try.func38, Try.ntmps38
    go_wp2_with fail
    refine HC.out.mono ?_
    rintro e w1 ⟨v, rfl, hown, hB⟩
    go_wp2_with fail
    go_returns
    exact ⟨hB, v, rfl, hown⟩
end Go.Proofs.Ytakjiicnbocjeaa
namespace Go.Proofs.Ytakjiicnbocjeaa
open Go.RowKit Go.Maps
set_option maxRecDepth 100000 in
theorem Bs.string {w : World} {v : Value} {bs : List Int} (h : Bs w v bs) : (convert 28 9 v).run Try.prog w = .ok (.string (strOfNums bs)) w := by
  rcases Nat.eq_zero_or_pos bs.length with h0 | h0
  · have : bs = [] := List.eq_nil_of_length_eq_zero h0
    subst this
    obtain ⟨_, a, c, rfl, _⟩ := h
    cases a with
    | none => exact run_convert_bytes_nil w 28 5 Try.underlying28 Try.underlying5 _ _ _ Try.underlying9
    | some ad =>
      rw [run_convert_bytes_string w 28 9 5 _ _ _ Try.underlying28 Try.underlying5 Try.underlying9]
      have := run_loadCells_list (P := Try.prog) w ad [] (fun j v hj => by simp at hj)
      rw [List.length_nil, run_bytesToString w ad 0 c [] (by simpa using this)]
      rfl
  · obtain ⟨ad, c, rfl⟩ := h.at0 h0
    obtain ⟨_, a, c', e, hx⟩ := h
    injection e with e1 _ _
    subst e1
    rw [run_convert_bytes_string w 28 9 5 _ _ _ Try.underlying28 Try.underlying5 Try.underlying9]
    have := run_loadCells_list (P := Try.prog) w ad (bs.map (Value.int .u8)) (fun j v hj => by
      rw [List.getElem?_map] at hj
      obtain ⟨x, hx2, rfl⟩ := Option.map_eq_some_iff.1 hj
      obtain ⟨_, _, ad', e, hc⟩ := hx j x hx2
      cases e; exact hc)
    rw [run_bytesToString w ad bs.length c bs (by simpa using this), foldl_push_bytes]
    simp [strOfNums, ByteArray.empty, ByteArray.emptyWithCapacity]
    rfl
theorem strOf_inj {x y : List Int} (hx : ∀ b ∈ x, 0 ≤ b ∧ b < 256) (hy : ∀ b ∈ y, 0 ≤ b ∧ b < 256) (h : strOfNums x = strOfNums y) : x = y := by
  have h1 : x.map (fun n => UInt8.ofNat n.toNat) = y.map (fun n => UInt8.ofNat n.toNat) := by rw [← strOfNums_data, ← strOfNums_data, h]
  induction x generalizing y with
  | nil => cases y with
    | nil => rfl
    | cons b r => simp at h1
  | cons a r ih => cases y with
    | nil => simp at h1
    | cons b s =>
      simp only [List.map_cons, List.cons.injEq] at h1
      have ha := hx a (by simp)
      have hb := hy b (by simp)
      have e := congrArg UInt8.toNat h1.1
      rw [UInt8.toNat_ofNat', UInt8.toNat_ofNat'] at e
      have : a = b := by omega
      rw [this, ih (fun z hz => hx z (by simp [hz])) (fun z hz => hy z (by simp [hz])) ?_ h1.2]
      unfold strOfNums
      rw [h1.2]
def dSize (h : Int) : Int := if 144 ≤ h then h - 144 else h - 128
def dTurn (h : Int) : Int := if 144 ≤ h then 18446744073709551615 else 0
def dStep (u c : Int) : Int := bits .or .u64 (IntKind.u64.wrap (u * 256)) c
def dU (l : List Int) : Int := l.foldl dStep 0
def dN (h : Int) (l : List Int) : Int := wrap64 (bits .xor .u64 (dU l) (dTurn h))
/-- The number with whose cell bytes begin. -/
def firstB (bs : List Int) : Option (Int × Nat) :=
  match bs with
  | [] => none
  | h :: r => if h < 128 then some (h, 1) else if 8 < dSize h ∨ (r.length : Int) < dSize h then none
    else if numB (dN h (r.take (dSize h).toNat)) = h :: r.take (dSize h).toNat then some (dN h (r.take (dSize h).toNat), 1 + (dSize h).toNat) else none
theorem dU_succ {l : List Int} {k : Nat} {x : Int} (h : l[k]? = some x) : dU (l.take (k + 1)) = dStep (dU (l.take k)) x := by
  unfold dU
  rw [List.take_add_one, h, List.foldl_append]; rfl
def firstV (o : Option (Int × Nat)) : Value := match o with
  | some (n, k) => .tuple #[.int .i64 n, .int .i64 k, .int .i64 0]
  | none => .tuple #[.int .i64 0, .int .i64 0, .int .i64 10]
theorem strNe {a b : ByteArray} (h : a ≠ b) : (a.toList == b.toList) = false := by
  have : a.toList ≠ b.toList := fun e => by
    rw [ByteArray.toList_eq, ByteArray.toList_eq] at e
    apply h
    cases a; cases b
    simp only [ByteArray.mk.injEq]
    exact Array.toList_inj.1 e
  simpa using this
theorem Bs.take {w : World} {a : Option Addr} {n c k : Nat} {bs : List Int} (h : Bs w (.slice a n c) bs) (hk : k ≤ n) : Bs w (.slice a k c) (bs.take k) := by
  obtain ⟨h0, a', c', e, hx⟩ := h
  injection e with e1 e2 e3
  subst e1 e3
  have hl : (bs.take k).length = k := by rw [List.length_take]; omega
  refine ⟨by omega, a, c, by rw [hl], fun i x hi => ?_⟩
  rw [List.getElem?_take] at hi
  split at hi
  · exact hx i x hi
  · cases hi
set_option maxRecDepth 100000 in
set_option maxHeartbeats 4000000 in
theorem cFirst (w : World) (v : Value) (bs : List Int) (h : Bs w v bs) (hcap : ∀ a n c, v = .slice a n c → n ≤ c) : Calls Try.prog 61 #[v] w fun e w' => e = .returned (firstV (firstB bs)) ∧ Below w.heap.size w w' := by
  obtain ⟨hlen, a, c, rfl, hx⟩ := id h
  cases bs with
  | nil =>
    clear h hx
    unfold firstB firstV
    dsimp only
    go_enter Try.func61, Try.ntmps61
    go_wp2
    go_returns
    exact ⟨rfl, Below.refl _ _⟩
  | cons hd r =>
    obtain ⟨h0, h1, ad, rfl, hc⟩ := hx 0 hd rfl
    have hc0 : w.cell? ad = some (.int .u8 hd) := by have := hc; unfold Addr.add at this; simpa using this
    obtain ⟨n, hn⟩ : ∃ n, r.length = n := ⟨_, rfl⟩
    have HN := Lib.hid hn
    have hl : (hd :: r).length = n + 1 := by rw [List.length_cons, hn]
    rw [hl] at hlen h ⊢
    by_cases hs : hd < 128
    · have e : firstB (hd :: r) = some (hd, 1) := by simp [firstB, hs]
      rw [e]
      unfold firstV
      dsimp only
      clear hx h hl hn e
      go_enter Try.func61, Try.ntmps61
      go_wp2
      go_returns
      exact ⟨rfl, Below.refl _ _⟩
    · have hcn : n + 1 ≤ c := by rw [← hl]; exact hcap _ _ _ (by rw [hl])
      have hbyte : ∀ x ∈ r, 0 ≤ x ∧ x < 256 := fun x hxr => by
        obtain ⟨i, hi, rfl⟩ := List.getElem_of_mem hxr
        obtain ⟨z0, z1, _⟩ := hx (i + 1) r[i] (by simp)
        exact ⟨z0, z1⟩
      have hcell : ∀ (i : Nat) (x : Int), r[i]? = some x → w.cell? (ad.add (1 + i)) = some (.int .u8 x) := fun i x hi => by
        obtain ⟨_, _, ad', e, hc⟩ := hx (i + 1) x (by simpa using hi)
        cases e
        rw [Nat.add_comm]; exact hc
      have HB := Lib.hid hbyte; have HC := Lib.hid hcell; have HH := Lib.hid h
      obtain ⟨S, hS⟩ : ∃ S, dSize hd = S := ⟨_, rfl⟩
      obtain ⟨T, hT⟩ : ∃ T, dTurn hd = T := ⟨_, rfl⟩
      have HS := Lib.hid hS; have HT := Lib.hid hT
      have hS0 : 0 ≤ S := by rw [← hS]; unfold dSize; split <;> omega
      by_cases hbad : 8 < S ∨ (n : Int) < S
      · have e : firstB (hd :: r) = none := by
          have := HN.out
          simp only [firstB, hs, if_false, hS]
          rw [if_pos (by rw [this]; exact hbad)]
        rw [e]
        unfold firstV
        dsimp only
        clear hbyte hcell hx h hl hn e hT hcap
        rcases (by omega : 8 < S ∨ S ≤ 8 ∧ (n : Int) < S) with hb1 | ⟨hb1, hb2⟩ <;> rcases (by omega : 144 ≤ hd ∨ hd < 144) with hh | hh
        all_goals
          first
          | (have hSe : S = hd - 144 := by rw [← hS]; unfold dSize; rw [if_pos hh])
          | (have hSe : S = hd - 128 := by rw [← hS]; unfold dSize; rw [if_neg (by omega)])
          clear hS hbad
          subst hSe
          go_enter Try.func61, Try.ntmps61
          go_wp2
          go_returns
          exact ⟨rfl, Below.refl _ _⟩
      · obtain ⟨m, rfl⟩ : ∃ m : Nat, S = m := ⟨S.toNat, by omega⟩
        have hm8 : (m : Int) ≤ 8 := by omega
        have hmn : (m : Int) ≤ n := by omega
        have e : firstB (hd :: r) = if numB (dN hd (r.take m)) = hd :: r.take m then some (dN hd (r.take m), 1 + m) else none := by
          have := HN.out
          simp only [firstB, hs, if_false, hS, Int.toNat_natCast]
          rw [if_neg (by rw [this]; exact hbad)]
        obtain ⟨N, hN⟩ : ∃ N, dN hd (r.take m) = N := ⟨_, rfl⟩
        have hdn : wrap64 (bits .xor .u64 (dU (r.take m)) T) = N := by rw [← hN]; unfold dN; rw [hT]
        have hNk : okI N := by rw [← hN]; unfold dN wrap64 okI; omega
        rw [e, hN]
        have HDN := Lib.hid hdn; have HNK := Lib.hid hNk
        clear hN hNk
        have hl8 : ((r.take m).length : Nat) = m := by rw [List.length_take]; have := HN.out; omega
        have HL8 := Lib.hid hl8
        clear e hdn hx hbyte hcell hl8
        have htake : ∀ (h' : Int), Bs w (.slice (some ad) (n + 1) c) (h' :: r) → Bs w (.slice (some ad) (1 + m) c) (h' :: r.take m) := fun h' hb => by
          have := hb.take (k := 1 + m) (by omega)
          rw [Nat.add_comm 1 m, List.take_succ_cons] at this
          rw [Nat.add_comm 1 m]; exact this
        have HTK := Lib.hid (htake hd h)
        clear htake
        have hbytes : ∀ x ∈ hd :: r.take m, 0 ≤ x ∧ x < 256 := fun x hx => by
          rcases List.mem_cons.1 hx with rfl | hx
          · exact ⟨h0, h1⟩
          · exact HB.out x (List.mem_of_mem_take hx)
        have hiff : strOfNums (numB N) = strOfNums (hd :: r.take m) ↔ numB N = hd :: r.take m := ⟨fun e => strOf_inj (fun x hx => numB_mem HNK.out hx) hbytes e, fun e => by rw [e]⟩
        obtain ⟨sa, hsa⟩ : ∃ x, strOfNums (numB N) = x := ⟨_, rfl⟩
        obtain ⟨sb, hsb⟩ : ∃ x, strOfNums (hd :: r.take m) = x := ⟨_, rfl⟩
        rw [hsa, hsb] at hiff
        have HIFF := Lib.hid hiff; have HSA := Lib.hid hsa; have HSB := Lib.hid hsb
        clear hiff hbytes hsa hsb
        rcases (by omega : 144 ≤ hd ∨ hd < 144) with hh | hh
        · have hde : hd = (m : Int) + 144 := by have := hS; unfold dSize at this; rw [if_pos hh] at this; omega
          have hTe : T = 18446744073709551615 := by rw [← hT]; unfold dTurn; rw [if_pos hh]
          clear hS hT HS HT hbad h hn hl hcap
          subst hTe
          subst hde
          by_cases hc1 : c = 1
          · subst hc1
            rcases Decidable.em (sa = sb) with heq | hne
            · skip
              have hv : (if numB N = ((m : Int) + 144) :: r.take m then some (N, 1 + m) else none) = some (N, 1 + m) := if_pos (HIFF.out.1 heq)
              rw [hv]
              clear hv
              subst heq
              unfold firstV
              dsimp only
              go_enter Try.func61, Try.ntmps61
              go_wp2_with fail
              go_loopw [8, 41] (fun u i wr => ∃ k : Nat, (k : Int) ≤ m ∧ u = .int .u64 (dU (r.take k)) ∧ i = .int .i64 k ∧ wr = w) (fun _ i _ => m - (intOf i).toNat)
              case atStart => exact ⟨0, by omega, rfl, rfl, rfl⟩
              case round =>
                obtain ⟨k, hk, rfl, rfl, rfl⟩ := hrel
                by_cases hkm : (k : Int) < m
                · exact absurd hkm (by omega)
                · have hke : k = m := by omega
                  subst hke
                  clear hkm hk
                  go_wp2_with fail
                  rw [HDN.out]
                  have hc2 := Lib.hid (cNum wr.drew N HNK.out)
                  have hq0 := (HTK.out.fr (Fr.refl (fun _ => False) _).drew (fun _ h => h.elim)).string
                  rw [HSB.out] at hq0
                  have hb1 : (1 : Int) + (k : Int) ≤ 1 := by omega
                  have hb0 : (0 : Int) ≤ 1 + (k : Int) := by omega
                  have hwr : IntKind.i64.wrap (1 + (k : Int)) = 1 + (k : Int) := by rw [IntKind.wrap_i64]; omega
                  have htn : (1 + (k : Int)).toNat = 1 + k := by omega
                  go_region_with (go_at_call 53; refine hc2.out.mono ?_; rintro e w1 ⟨v, rfl, hb, hB⟩; have hv1 := hb.1.string; rw [HSA.out] at hv1; have hq1 := ((HTK.out.fr (Fr.refl (fun _ => False) _).drew (fun _ h => h.elim)).fr (Fr.below (S := fun _ => False) hB) (fun _ h => h.elim)).string; rw [HSB.out] at hq1; have HBB := Lib.hid hB; clear hb hB)
                  all_goals
                    go_wp2_with fail
                    go_returns
                    exact ⟨rfl, ((Below.refl _ _).drew).trans HBB.out⟩
            · skip
              have hv : (if numB N = ((m : Int) + 144) :: r.take m then some (N, 1 + m) else none) = none := if_neg (fun e => hne (HIFF.out.2 e))
              rw [hv]
              clear hv
              have hbne : (sa.toList == sb.toList) = false := strNe hne
              unfold firstV
              dsimp only
              go_enter Try.func61, Try.ntmps61
              go_wp2_with fail
              go_loopw [8, 41] (fun u i wr => ∃ k : Nat, (k : Int) ≤ m ∧ u = .int .u64 (dU (r.take k)) ∧ i = .int .i64 k ∧ wr = w) (fun _ i _ => m - (intOf i).toNat)
              case atStart => exact ⟨0, by omega, rfl, rfl, rfl⟩
              case round =>
                obtain ⟨k, hk, rfl, rfl, rfl⟩ := hrel
                by_cases hkm : (k : Int) < m
                · exact absurd hkm (by omega)
                · have hke : k = m := by omega
                  subst hke
                  clear hkm hk
                  go_wp2_with fail
                  rw [HDN.out]
                  have hc2 := Lib.hid (cNum wr.drew N HNK.out)
                  have hq0 := (HTK.out.fr (Fr.refl (fun _ => False) _).drew (fun _ h => h.elim)).string
                  rw [HSB.out] at hq0
                  have hb1 : (1 : Int) + (k : Int) ≤ 1 := by omega
                  have hb0 : (0 : Int) ≤ 1 + (k : Int) := by omega
                  have hwr : IntKind.i64.wrap (1 + (k : Int)) = 1 + (k : Int) := by rw [IntKind.wrap_i64]; omega
                  have htn : (1 + (k : Int)).toNat = 1 + k := by omega
                  go_region_with (go_at_call 53; refine hc2.out.mono ?_; rintro e w1 ⟨v, rfl, hb, hB⟩; have hv1 := hb.1.string; rw [HSA.out] at hv1; have hq1 := ((HTK.out.fr (Fr.refl (fun _ => False) _).drew (fun _ h => h.elim)).fr (Fr.below (S := fun _ => False) hB) (fun _ h => h.elim)).string; rw [HSB.out] at hq1; have HBB := Lib.hid hB; clear hb hB)
                  all_goals
                    go_wp2_with fail
                    go_returns
                    exact ⟨rfl, ((Below.refl _ _).drew).trans HBB.out⟩
          · skip
            rcases Decidable.em (sa = sb) with heq | hne
            · skip
              have hv : (if numB N = ((m : Int) + 144) :: r.take m then some (N, 1 + m) else none) = some (N, 1 + m) := if_pos (HIFF.out.1 heq)
              rw [hv]
              clear hv
              subst heq
              unfold firstV
              dsimp only
              go_enter Try.func61, Try.ntmps61
              go_wp2_with fail
              go_loopw [8, 41] (fun u i wr => ∃ k : Nat, (k : Int) ≤ m ∧ u = .int .u64 (dU (r.take k)) ∧ i = .int .i64 k ∧ wr = w) (fun _ i _ => m - (intOf i).toNat)
              case atStart => exact ⟨0, by omega, rfl, rfl, rfl⟩
              case round =>
                obtain ⟨k, hk, rfl, rfl, rfl⟩ := hrel
                by_cases hkm : (k : Int) < m
                · obtain ⟨x, hx⟩ : ∃ x, r[k]? = some x := ⟨r[k]'(by have := HN.out; omega), List.getElem?_eq_getElem _⟩
                  have hcx := HC.out k x hx
                  obtain ⟨x0, x1⟩ := HB.out x (List.mem_of_getElem? hx)
                  have hcx : wr.cell? ⟨ad.block, ad.off + 1 + k, none⟩ = some (.int .u8 x) := by
                    rw [← hcx]
                    unfold Addr.add
                    rw [if_neg (by omega)]
                    congr 2; omega
                  have HU := Lib.hid (dU_succ hx)
                  generalize dU (r.take k) = u at *
                  clear hx
                  go_wp2
                  go_roundw
                  case rel => exact ⟨k + 1, by omega, by rw [HU.out]; rfl, by go_num, by trivial⟩
                  case measure => simp [intOf]; omega
                · have hke : k = m := by omega
                  subst hke
                  clear hkm hk
                  go_wp2_with fail
                  rw [HDN.out]
                  have hc2 := Lib.hid (cNum wr.drew N HNK.out)
                  have hq0 := (HTK.out.fr (Fr.refl (fun _ => False) _).drew (fun _ h => h.elim)).string
                  rw [HSB.out] at hq0
                  have hb1 : (1 : Int) + (k : Int) ≤ (c : Int) := by omega
                  have hb0 : (0 : Int) ≤ 1 + (k : Int) := by omega
                  have hb3 : ¬ c = 0 := by omega
                  have hwr : IntKind.i64.wrap (1 + (k : Int)) = 1 + (k : Int) := by rw [IntKind.wrap_i64]; omega
                  have htn : (1 + (k : Int)).toNat = 1 + k := by omega
                  go_region_with (go_at_call 53; refine hc2.out.mono ?_; rintro e w1 ⟨v, rfl, hb, hB⟩; have hv1 := hb.1.string; rw [HSA.out] at hv1; have hq1 := ((HTK.out.fr (Fr.refl (fun _ => False) _).drew (fun _ h => h.elim)).fr (Fr.below (S := fun _ => False) hB) (fun _ h => h.elim)).string; rw [HSB.out] at hq1; have HBB := Lib.hid hB; clear hb hB)
                  all_goals
                    go_wp2_with fail
                    go_returns
                    exact ⟨rfl, ((Below.refl _ _).drew).trans HBB.out⟩
            · skip
              have hv : (if numB N = ((m : Int) + 144) :: r.take m then some (N, 1 + m) else none) = none := if_neg (fun e => hne (HIFF.out.2 e))
              rw [hv]
              clear hv
              have hbne : (sa.toList == sb.toList) = false := strNe hne
              unfold firstV
              dsimp only
              go_enter Try.func61, Try.ntmps61
              go_wp2_with fail
              go_loopw [8, 41] (fun u i wr => ∃ k : Nat, (k : Int) ≤ m ∧ u = .int .u64 (dU (r.take k)) ∧ i = .int .i64 k ∧ wr = w) (fun _ i _ => m - (intOf i).toNat)
              case atStart => exact ⟨0, by omega, rfl, rfl, rfl⟩
              case round =>
                obtain ⟨k, hk, rfl, rfl, rfl⟩ := hrel
                by_cases hkm : (k : Int) < m
                · obtain ⟨x, hx⟩ : ∃ x, r[k]? = some x := ⟨r[k]'(by have := HN.out; omega), List.getElem?_eq_getElem _⟩
                  have hcx := HC.out k x hx
                  obtain ⟨x0, x1⟩ := HB.out x (List.mem_of_getElem? hx)
                  have hcx : wr.cell? ⟨ad.block, ad.off + 1 + k, none⟩ = some (.int .u8 x) := by
                    rw [← hcx]
                    unfold Addr.add
                    rw [if_neg (by omega)]
                    congr 2; omega
                  have HU := Lib.hid (dU_succ hx)
                  generalize dU (r.take k) = u at *
                  clear hx
                  go_wp2
                  go_roundw
                  case rel => exact ⟨k + 1, by omega, by rw [HU.out]; rfl, by go_num, by trivial⟩
                  case measure => simp [intOf]; omega
                · have hke : k = m := by omega
                  subst hke
                  clear hkm hk
                  go_wp2_with fail
                  rw [HDN.out]
                  have hc2 := Lib.hid (cNum wr.drew N HNK.out)
                  have hq0 := (HTK.out.fr (Fr.refl (fun _ => False) _).drew (fun _ h => h.elim)).string
                  rw [HSB.out] at hq0
                  have hb1 : (1 : Int) + (k : Int) ≤ (c : Int) := by omega
                  have hb0 : (0 : Int) ≤ 1 + (k : Int) := by omega
                  have hb3 : ¬ c = 0 := by omega
                  have hwr : IntKind.i64.wrap (1 + (k : Int)) = 1 + (k : Int) := by rw [IntKind.wrap_i64]; omega
                  have htn : (1 + (k : Int)).toNat = 1 + k := by omega
                  go_region_with (go_at_call 53; refine hc2.out.mono ?_; rintro e w1 ⟨v, rfl, hb, hB⟩; have hv1 := hb.1.string; rw [HSA.out] at hv1; have hq1 := ((HTK.out.fr (Fr.refl (fun _ => False) _).drew (fun _ h => h.elim)).fr (Fr.below (S := fun _ => False) hB) (fun _ h => h.elim)).string; rw [HSB.out] at hq1; have HBB := Lib.hid hB; clear hb hB)
                  all_goals
                    go_wp2_with fail
                    go_returns
                    exact ⟨rfl, ((Below.refl _ _).drew).trans HBB.out⟩
        · have hde : hd = (m : Int) + 128 := by have := hS; unfold dSize at this; rw [if_neg (by omega)] at this; omega
          have hTe : T = 0 := by rw [← hT]; unfold dTurn; rw [if_neg (by omega)]
          clear hS hT HS HT hbad h hn hl hcap
          subst hTe
          subst hde
          by_cases hc1 : c = 1
          · subst hc1
            rcases Decidable.em (sa = sb) with heq | hne
            · skip
              have hv : (if numB N = ((m : Int) + 128) :: r.take m then some (N, 1 + m) else none) = some (N, 1 + m) := if_pos (HIFF.out.1 heq)
              rw [hv]
              clear hv
              subst heq
              unfold firstV
              dsimp only
              go_enter Try.func61, Try.ntmps61
              go_wp2_with fail
              go_loopw [8, 41] (fun u i wr => ∃ k : Nat, (k : Int) ≤ m ∧ u = .int .u64 (dU (r.take k)) ∧ i = .int .i64 k ∧ wr = w) (fun _ i _ => m - (intOf i).toNat)
              case atStart => exact ⟨0, by omega, rfl, rfl, rfl⟩
              case round =>
                obtain ⟨k, hk, rfl, rfl, rfl⟩ := hrel
                by_cases hkm : (k : Int) < m
                · exact absurd hkm (by omega)
                · have hke : k = m := by omega
                  subst hke
                  clear hkm hk
                  go_wp2_with fail
                  rw [HDN.out]
                  have hc2 := Lib.hid (cNum wr.drew N HNK.out)
                  have hq0 := (HTK.out.fr (Fr.refl (fun _ => False) _).drew (fun _ h => h.elim)).string
                  rw [HSB.out] at hq0
                  have hb1 : (1 : Int) + (k : Int) ≤ 1 := by omega
                  have hb0 : (0 : Int) ≤ 1 + (k : Int) := by omega
                  have hwr : IntKind.i64.wrap (1 + (k : Int)) = 1 + (k : Int) := by rw [IntKind.wrap_i64]; omega
                  have htn : (1 + (k : Int)).toNat = 1 + k := by omega
                  go_region_with (go_at_call 53; refine hc2.out.mono ?_; rintro e w1 ⟨v, rfl, hb, hB⟩; have hv1 := hb.1.string; rw [HSA.out] at hv1; have hq1 := ((HTK.out.fr (Fr.refl (fun _ => False) _).drew (fun _ h => h.elim)).fr (Fr.below (S := fun _ => False) hB) (fun _ h => h.elim)).string; rw [HSB.out] at hq1; have HBB := Lib.hid hB; clear hb hB)
                  all_goals
                    go_wp2_with fail
                    go_returns
                    exact ⟨rfl, ((Below.refl _ _).drew).trans HBB.out⟩
            · skip
              have hv : (if numB N = ((m : Int) + 128) :: r.take m then some (N, 1 + m) else none) = none := if_neg (fun e => hne (HIFF.out.2 e))
              rw [hv]
              clear hv
              have hbne : (sa.toList == sb.toList) = false := strNe hne
              unfold firstV
              dsimp only
              go_enter Try.func61, Try.ntmps61
              go_wp2_with fail
              go_loopw [8, 41] (fun u i wr => ∃ k : Nat, (k : Int) ≤ m ∧ u = .int .u64 (dU (r.take k)) ∧ i = .int .i64 k ∧ wr = w) (fun _ i _ => m - (intOf i).toNat)
              case atStart => exact ⟨0, by omega, rfl, rfl, rfl⟩
              case round =>
                obtain ⟨k, hk, rfl, rfl, rfl⟩ := hrel
                by_cases hkm : (k : Int) < m
                · exact absurd hkm (by omega)
                · have hke : k = m := by omega
                  subst hke
                  clear hkm hk
                  go_wp2_with fail
                  rw [HDN.out]
                  have hc2 := Lib.hid (cNum wr.drew N HNK.out)
                  have hq0 := (HTK.out.fr (Fr.refl (fun _ => False) _).drew (fun _ h => h.elim)).string
                  rw [HSB.out] at hq0
                  have hb1 : (1 : Int) + (k : Int) ≤ 1 := by omega
                  have hb0 : (0 : Int) ≤ 1 + (k : Int) := by omega
                  have hwr : IntKind.i64.wrap (1 + (k : Int)) = 1 + (k : Int) := by rw [IntKind.wrap_i64]; omega
                  have htn : (1 + (k : Int)).toNat = 1 + k := by omega
                  go_region_with (go_at_call 53; refine hc2.out.mono ?_; rintro e w1 ⟨v, rfl, hb, hB⟩; have hv1 := hb.1.string; rw [HSA.out] at hv1; have hq1 := ((HTK.out.fr (Fr.refl (fun _ => False) _).drew (fun _ h => h.elim)).fr (Fr.below (S := fun _ => False) hB) (fun _ h => h.elim)).string; rw [HSB.out] at hq1; have HBB := Lib.hid hB; clear hb hB)
                  all_goals
                    go_wp2_with fail
                    go_returns
                    exact ⟨rfl, ((Below.refl _ _).drew).trans HBB.out⟩
          · skip
            rcases Decidable.em (sa = sb) with heq | hne
            · skip
              have hv : (if numB N = ((m : Int) + 128) :: r.take m then some (N, 1 + m) else none) = some (N, 1 + m) := if_pos (HIFF.out.1 heq)
              rw [hv]
              clear hv
              subst heq
              unfold firstV
              dsimp only
              go_enter Try.func61, Try.ntmps61
              go_wp2_with fail
              go_loopw [8, 41] (fun u i wr => ∃ k : Nat, (k : Int) ≤ m ∧ u = .int .u64 (dU (r.take k)) ∧ i = .int .i64 k ∧ wr = w) (fun _ i _ => m - (intOf i).toNat)
              case atStart => exact ⟨0, by omega, rfl, rfl, rfl⟩
              case round =>
                obtain ⟨k, hk, rfl, rfl, rfl⟩ := hrel
                by_cases hkm : (k : Int) < m
                · obtain ⟨x, hx⟩ : ∃ x, r[k]? = some x := ⟨r[k]'(by have := HN.out; omega), List.getElem?_eq_getElem _⟩
                  have hcx := HC.out k x hx
                  obtain ⟨x0, x1⟩ := HB.out x (List.mem_of_getElem? hx)
                  have hcx : wr.cell? ⟨ad.block, ad.off + 1 + k, none⟩ = some (.int .u8 x) := by
                    rw [← hcx]
                    unfold Addr.add
                    rw [if_neg (by omega)]
                    congr 2; omega
                  have HU := Lib.hid (dU_succ hx)
                  generalize dU (r.take k) = u at *
                  clear hx
                  go_wp2
                  go_roundw
                  case rel => exact ⟨k + 1, by omega, by rw [HU.out]; rfl, by go_num, by trivial⟩
                  case measure => simp [intOf]; omega
                · have hke : k = m := by omega
                  subst hke
                  clear hkm hk
                  go_wp2_with fail
                  rw [HDN.out]
                  have hc2 := Lib.hid (cNum wr.drew N HNK.out)
                  have hq0 := (HTK.out.fr (Fr.refl (fun _ => False) _).drew (fun _ h => h.elim)).string
                  rw [HSB.out] at hq0
                  have hb1 : (1 : Int) + (k : Int) ≤ (c : Int) := by omega
                  have hb0 : (0 : Int) ≤ 1 + (k : Int) := by omega
                  have hb3 : ¬ c = 0 := by omega
                  have hwr : IntKind.i64.wrap (1 + (k : Int)) = 1 + (k : Int) := by rw [IntKind.wrap_i64]; omega
                  have htn : (1 + (k : Int)).toNat = 1 + k := by omega
                  go_region_with (go_at_call 53; refine hc2.out.mono ?_; rintro e w1 ⟨v, rfl, hb, hB⟩; have hv1 := hb.1.string; rw [HSA.out] at hv1; have hq1 := ((HTK.out.fr (Fr.refl (fun _ => False) _).drew (fun _ h => h.elim)).fr (Fr.below (S := fun _ => False) hB) (fun _ h => h.elim)).string; rw [HSB.out] at hq1; have HBB := Lib.hid hB; clear hb hB)
                  all_goals
                    go_wp2_with fail
                    go_returns
                    exact ⟨rfl, ((Below.refl _ _).drew).trans HBB.out⟩
            · skip
              have hv : (if numB N = ((m : Int) + 128) :: r.take m then some (N, 1 + m) else none) = none := if_neg (fun e => hne (HIFF.out.2 e))
              rw [hv]
              clear hv
              have hbne : (sa.toList == sb.toList) = false := strNe hne
              unfold firstV
              dsimp only
              go_enter Try.func61, Try.ntmps61
              go_wp2_with fail
              go_loopw [8, 41] (fun u i wr => ∃ k : Nat, (k : Int) ≤ m ∧ u = .int .u64 (dU (r.take k)) ∧ i = .int .i64 k ∧ wr = w) (fun _ i _ => m - (intOf i).toNat)
              case atStart => exact ⟨0, by omega, rfl, rfl, rfl⟩
              case round =>
                obtain ⟨k, hk, rfl, rfl, rfl⟩ := hrel
                by_cases hkm : (k : Int) < m
                · obtain ⟨x, hx⟩ : ∃ x, r[k]? = some x := ⟨r[k]'(by have := HN.out; omega), List.getElem?_eq_getElem _⟩
                  have hcx := HC.out k x hx
                  obtain ⟨x0, x1⟩ := HB.out x (List.mem_of_getElem? hx)
                  have hcx : wr.cell? ⟨ad.block, ad.off + 1 + k, none⟩ = some (.int .u8 x) := by
                    rw [← hcx]
                    unfold Addr.add
                    rw [if_neg (by omega)]
                    congr 2; omega
                  have HU := Lib.hid (dU_succ hx)
                  generalize dU (r.take k) = u at *
                  clear hx
                  go_wp2
                  go_roundw
                  case rel => exact ⟨k + 1, by omega, by rw [HU.out]; rfl, by go_num, by trivial⟩
                  case measure => simp [intOf]; omega
                · have hke : k = m := by omega
                  subst hke
                  clear hkm hk
                  go_wp2_with fail
                  rw [HDN.out]
                  have hc2 := Lib.hid (cNum wr.drew N HNK.out)
                  have hq0 := (HTK.out.fr (Fr.refl (fun _ => False) _).drew (fun _ h => h.elim)).string
                  rw [HSB.out] at hq0
                  have hb1 : (1 : Int) + (k : Int) ≤ (c : Int) := by omega
                  have hb0 : (0 : Int) ≤ 1 + (k : Int) := by omega
                  have hb3 : ¬ c = 0 := by omega
                  have hwr : IntKind.i64.wrap (1 + (k : Int)) = 1 + (k : Int) := by rw [IntKind.wrap_i64]; omega
                  have htn : (1 + (k : Int)).toNat = 1 + k := by omega
                  go_region_with (go_at_call 53; refine hc2.out.mono ?_; rintro e w1 ⟨v, rfl, hb, hB⟩; have hv1 := hb.1.string; rw [HSA.out] at hv1; have hq1 := ((HTK.out.fr (Fr.refl (fun _ => False) _).drew (fun _ h => h.elim)).fr (Fr.below (S := fun _ => False) hB) (fun _ h => h.elim)).string; rw [HSB.out] at hq1; have HBB := Lib.hid hB; clear hb hB)
                  all_goals
                    go_wp2_with fail
                    go_returns
                    exact ⟨rfl, ((Below.refl _ _).drew).trans HBB.out⟩
end Go.Proofs.Ytakjiicnbocjeaa
namespace Go.Proofs.Ytakjiicnbocjeaa
open Go.RowKit Go.Maps
/-- A taker with bs left. -/
structure TK (w : World) (g : Nat) (TS : Nat → Prop) (bs : List Int) (bad : Bool) : Prop where
  ex : ∃ v, w.heap[g]? = some (.cells #[v, .bool bad] 117) ∧ Bs w v bs ∧ (∀ a n c, v = .slice a n c → n ≤ c) ∧ ∀ b, v.ownBlock = some b → TS b ∧ b ≠ g
  own : TS g
  lt : ∀ b, TS b → b < w.heap.size
theorem Bs.keep {S : Nat → Prop} {w w' : World} {v : Value} {bs : List Int} (h : Bs w v bs) (hf : Fr S w w') (hS : ∀ b, v.ownBlock = some b → ¬ S b) : Bs w' v bs := by
  obtain ⟨h0, a, c, rfl, h1⟩ := h
  refine ⟨h0, a, c, rfl, fun i x hx => ?_⟩
  obtain ⟨b1, b2, ad, rfl, hc⟩ := h1 i x hx
  have hb : (ad.add i).block = ad.block := by unfold Addr.add; split <;> rfl
  exact ⟨b1, b2, ad, rfl, hf.cell hc (fun e => hS ad.block rfl (hb ▸ e))⟩
theorem TK.fr {S TS : Nat → Prop} {w w' : World} {g : Nat} {bs : List Int} {bad : Bool} (h : TK w g TS bs bad) (hf : Fr S w w') (hS : ∀ b, TS b → ¬ S b) : TK w' g TS bs bad := by
  obtain ⟨⟨v, h1, h2, h3, h4⟩, h5, h6⟩ := h
  exact ⟨⟨v, hf.at_ h1 (hS _ h5), h2.keep hf (fun b hb => hS _ (h4 b hb).1), h3, h4⟩, h5, fun b hb => Nat.lt_of_lt_of_le (h6 b hb) hf.size⟩
/-- What a taker's Num gives, and what is left. -/
def numT (bs : List Int) (bad : Bool) (least most : Int) : Int × List Int × Bool :=
  if bad = true then (0, bs, true) else match firstB bs with
    | some (n, k) => if n < least ∨ most < n then (0, bs, true) else (n, bs.drop k, false)
    | none => (0, bs, true)
set_option maxRecDepth 100000 in
theorem cTake (w : World) (v : Value) (bs : List Int) (h : Bs w v bs) (hl : (bs.length : Int) ≤ 140737488351232) (hb : ∀ x ∈ bs, 0 ≤ x ∧ x < 256) : Calls Try.prog 42 #[v] w fun e w' =>
    ∃ g TS, e = .returned (.pointer (some ⟨g, 0, none⟩)) ∧ TK w' g TS bs false ∧ Fr (fun _ => False) w w' ∧ ∀ b, TS b → w.heap.size ≤ b := by
  have hC := cClone w v bs h hl
  have HC := Lib.hid hC; have HB := Lib.hid hb
  obtain ⟨_, a, c, rfl, _⟩ := h
  clear hC hb
  go_enter Try.func42, Try.ntmps42
  go_wp2_with fail
  refine HC.out.mono ?_
  rintro e w1 ⟨v', rfl, hown, hB⟩
  have hBs := Bs.own hown HB.out
  obtain ⟨_, a', c', rfl, _⟩ := id hBs.1
  have hcap : ∀ a n c, Value.slice a' bs.length c' = .slice a n c → n ≤ c := fun a n c e => by
    injection e with e1 e2 e3
    subst e1 e2 e3
    rcases hown.2 with ⟨e, e2⟩ | ⟨g, cap, cur, e, _, _, h1, _⟩
    · omega
    · injection e with _ _ e3
      omega
  have hlt := fun b hb => hown.lt b hb
  have HBS := Lib.hid hBs; have HCAP := Lib.hid hcap; have HLT := Lib.hid hlt; have HBB := Lib.hid hB
  clear hown hBs hcap hlt hB
  go_wp2_with fail
  go_ret
  refine ⟨_, fun b => b = w1.heap.size ∨ (Value.slice a' bs.length c').ownBlock = some b, rfl, ⟨⟨_, heap_new _ _, HBS.out.1.keep ((Fr.refl (fun _ => False) _).alloc _) (fun _ _ h => h), HCAP.out, fun b hb => ⟨.inr hb, ?_⟩⟩, .inl rfl, ?_⟩, ((Fr.below HBB.out).mono (fun _ _ h => h)).alloc _, ?_⟩
  · have := (HLT.out b hb).2; omega
  · rintro b (rfl | hb)
    · simp
    · have := (HLT.out b hb).2; simp; omega
  · rintro b (rfl | hb)
    · exact HBB.out.size
    · exact (HLT.out b hb).1
theorem cMay (w : World) (g : Nat) (TS : Nat → Prop) (bs : List Int) (bad : Bool) (h : TK w g TS bs bad) : Calls Try.prog 60 #[.pointer (some ⟨g, 0, none⟩)] w fun e w' => e = .returned (.bool (!bad)) ∧ w = w' := by
  obtain ⟨⟨v, h1, h2, h3, h4⟩, h5, h6⟩ := h
  have b1 := cell_obj h1 1 (.bool bad) rfl
  clear h1 h2 h3 h4 h5 h6
  go_enter Try.func60, Try.ntmps60
  go_wp2
  go_ret
  exact ⟨rfl, rfl⟩
theorem cFault (w : World) (g : Nat) (TS : Nat → Prop) (bs : List Int) (bad : Bool) (h : TK w g TS bs bad) : Calls Try.prog 62 #[.pointer (some ⟨g, 0, none⟩)] w fun e w' => (∃ v, e = .returned v) ∧ TK w' g TS bs true ∧ Fr TS w w' := by
  obtain ⟨⟨v, h1, h2, h3, h4⟩, h5, h6⟩ := h
  have b1 := cell_obj h1 1 (.bool bad) rfl
  have f1 := obj_frozen h1 1
  have H1 := Lib.hid h1; have H2 := Lib.hid h2; have H3 := Lib.hid h3; have H4 := Lib.hid h4; have H5 := Lib.hid h5; have H6 := Lib.hid h6
  clear h1 h2 h3 h4 h5 h6
  go_enter Try.func62, Try.ntmps62
  go_wp2
  go_end0
  have hF : Fr (fun b => b = g) w (w.setCell ⟨g, 1, none⟩ (.bool true)) := (Fr.refl (fun b => b = g) w).setCell (p := ⟨g, 1, none⟩) (fun _ => rfl) _
  refine ⟨⟨_, rfl⟩, ⟨⟨v, obj_set H1.out 1 (.bool true), H2.out.keep hF (fun b hb => (H4.out b hb).2), H3.out, H4.out⟩, H5.out, fun b hb => by have := H6.out b hb; have := hF.size; omega⟩, hF.mono (fun b _ e => e ▸ H5.out)⟩
theorem Bs.drop {w : World} {a : Option Addr} {n c c' k : Nat} {bs : List Int} (h : Bs w (.slice a n c) bs) (hn : bs.length = n) (hk : k ≤ n) : Bs w (.slice (a.map fun x => x.add k) (n - k) c') (bs.drop k) := by
  obtain ⟨h0, a', c1, e, hx⟩ := h
  injection e with e1 e2 e3
  subst e1
  have hl : (bs.drop k).length = n - k := by rw [List.length_drop, hn]
  refine ⟨by omega, _, c', by rw [hl], fun i x hi => ?_⟩
  rw [List.getElem?_drop] at hi
  obtain ⟨b1, b2, ad, rfl, hc⟩ := hx (k + i) x hi
  exact ⟨b1, b2, _, rfl, by rw [Go.Deep.add_add]; exact hc⟩
theorem Bs.none' (w : World) (a : Option Addr) (c : Nat) : Bs w (.slice a 0 c) [] := ⟨by simp, a, c, rfl, fun i x h => by simp at h⟩
theorem firstB_le {bs : List Int} {n : Int} {k : Nat} (h : firstB bs = some (n, k)) : 1 ≤ k ∧ k ≤ bs.length := by
  cases bs with
  | nil => cases h
  | cons a r =>
    simp only [firstB] at h
    split at h
    · cases h; simp
    · split at h
      · cases h
      · split at h
        · cases h
          rename_i h1 _
          simp only [List.length_cons]
          omega
        · cases h
set_option maxRecDepth 100000 in
set_option maxHeartbeats 1000000 in
theorem cTNum (w : World) (g : Nat) (TS : Nat → Prop) (bs : List Int) (bad : Bool) (least most : Int) (h : TK w g TS bs bad) :
    Calls Try.prog 43 #[.pointer (some ⟨g, 0, none⟩), .int .i64 least, .int .i64 most] w fun e w' => e = .returned (.int .i64 (numT bs bad least most).1) ∧ TK w' g TS (numT bs bad least most).2.1 (numT bs bad least most).2.2 ∧ Fr TS w w' := by
  have hM := fun w h => cMay w g TS bs bad h
  have HM := Lib.hid hM; have HT := Lib.hid h
  clear hM
  cases bad with
  | true =>
    clear h
    unfold numT
    go_enter Try.func43, Try.ntmps43
    go_wp2_with (go_at_call 60; refine (HM.out _ HT.out).mono ?_; rintro e w1 ⟨rfl, rfl⟩)
    go_ret
    exact ⟨rfl, HT.out, Fr.refl _ _⟩
  | false =>
    obtain ⟨⟨v, h1, h2, h3, h4⟩, h5, h6⟩ := id h
    obtain ⟨_, a, c, rfl, _⟩ := id h2
    have b0 := cell_obj h1 0 (.slice a bs.length c) rfl
    have hFi := cFirst w _ bs h2 h3
    have HFI := Lib.hid hFi; have H1 := Lib.hid h1; have H2 := Lib.hid h2; have H3 := Lib.hid h3; have H4 := Lib.hid h4; have H5 := Lib.hid h5; have H6 := Lib.hid h6
    obtain ⟨o, ho⟩ : ∃ o, firstB bs = o := ⟨_, rfl⟩
    rw [ho] at HFI
    have HO := Lib.hid ho
    clear hFi h h1 h2 h3 h4 h5 h6 ho
    cases o with
    | none =>
      have e : numT bs false least most = (0, bs, true) := by simp [numT, HO.out]
      rw [e]
      clear e
      go_enter Try.func43, Try.ntmps43
      go_wp2_with (go_at_call 60; refine (HM.out _ HT.out).mono ?_; rintro e w1 ⟨rfl, rfl⟩)
      refine HFI.out.mono ?_
      rintro e w2 ⟨rfl, hB⟩
      unfold firstV
      dsimp only
      have HT2 := Lib.hid (HT.out.fr (Fr.below (S := fun _ => False) hB) (fun _ _ h => h)); have HBB := Lib.hid hB
      clear hB
      go_wp2_with fail
      refine (cFault _ _ _ _ _ HT2.out).mono ?_
      rintro e w3 ⟨⟨v, rfl⟩, hT3, hF3⟩
      go_wp2_with fail
      go_ret
      exact ⟨rfl, hT3, ((Fr.below (S := TS) HBB.out)).trans' hF3 (fun _ _ h => h)⟩
    | some p =>
      obtain ⟨n, k⟩ := p
      obtain ⟨hk1, hk2⟩ := firstB_le HO.out
      by_cases hbnd : n < least ∨ most < n
      · have e : numT bs false least most = (0, bs, true) := by simp [numT, HO.out, hbnd]
        rw [e]
        clear e hk1 hk2
        rcases (by omega : n < least ∨ least ≤ n ∧ most < n) with hlo | ⟨hlo, hhi⟩
        all_goals
          clear hbnd
          go_enter Try.func43, Try.ntmps43
          go_wp2_with (go_at_call 60; refine (HM.out _ HT.out).mono ?_; rintro e w1 ⟨rfl, rfl⟩)
          refine HFI.out.mono ?_
          rintro e w2 ⟨rfl, hB⟩
          unfold firstV
          dsimp only
          have HT2 := Lib.hid (HT.out.fr (Fr.below (S := fun _ => False) hB) (fun _ _ h => h)); have HBB := Lib.hid hB
          clear hB
          go_wp2_with fail
          refine (cFault _ _ _ _ _ HT2.out).mono ?_
          rintro e w3 ⟨⟨v, rfl⟩, hT3, hF3⟩
          go_wp2_with fail
          go_ret
          exact ⟨rfl, hT3, ((Fr.below (S := TS) HBB.out)).trans' hF3 (fun _ _ h => h)⟩
      · have e : numT bs false least most = (n, bs.drop k, false) := by simp only [numT, HO.out, hbnd]; simp
        rw [e]
        have hlo : least ≤ n := by omega
        have hhi : n ≤ most := by omega
        clear e hbnd
        have hcap := H3.out _ _ _ rfl
        obtain ⟨ln, hln⟩ : ∃ ln, bs.length = ln := ⟨_, rfl⟩
        have HLN := Lib.hid hln
        rw [hln] at hk2 hcap b0
        clear hln
        go_enter Try.func43, Try.ntmps43
        go_wp2_with (go_at_call 60; refine (HM.out _ HT.out).mono ?_; rintro e w1 ⟨rfl, rfl⟩)
        rw [HLN.out] at HFI
        refine HFI.out.mono ?_
        rintro e w2 ⟨rfl, hB⟩
        unfold firstV
        dsimp only
        have hF2 := Fr.below (S := fun _ => False) hB
        have hG2 := hF2.at_ H1.out (fun h => h)
        rw [HLN.out] at hG2
        have c0 := cell_obj hG2 0 (.slice a ln c) rfl
        have f0 := obj_frozen hG2 0
        have HG2 := Lib.hid hG2; have HF2 := Lib.hid hF2
        clear hB hF2 hG2 b0
        have hpost : ∀ v' : Value, Bs w2 v' (bs.drop k) → (∀ a n c, v' = .slice a n c → n ≤ c) → (∀ b, v'.ownBlock = some b → (Value.slice a ln c).ownBlock = some b) →
            TK (w2.setCell ⟨g, 0, none⟩ v') g TS (bs.drop k) false ∧ Fr TS w (w2.setCell ⟨g, 0, none⟩ v') := fun v' hb hc ho => by
          have hF : Fr (fun b => b = g) w2 (w2.setCell ⟨g, 0, none⟩ v') := (Fr.refl (fun b => b = g) w2).setCell (p := ⟨g, 0, none⟩) (fun _ => rfl) _
          have h4 := H4.out
          rw [HLN.out] at h4
          refine ⟨⟨⟨v', obj_set HG2.out 0 v', hb.keep hF (fun b e => (h4 b (ho b e)).2), hc, fun b e => h4 b (ho b e)⟩, H5.out, fun b e => ?_⟩, (HF2.out.mono (fun _ _ h => h.elim)).trans' hF (fun b _ e => e ▸ H5.out)⟩
          have := H6.out b e; have := HF2.out.size; have := hF.size; omega
        have HPOST := Lib.hid hpost
        have hb2 : Bs w2 (.slice a ln c) bs := by have := H2.out.fr HF2.out (fun _ h => h.elim); rw [HLN.out] at this; exact this
        have HB2 := Lib.hid hb2
        clear hpost hb2
        go_wp2_with fail
        · have hck : c = k := by assumption
          have hlk : ln = k := by omega
          go_ret
          refine ⟨rfl, HPOST.out _ ?_ ?_ ?_⟩
          · have e0 : bs.drop k = [] := List.drop_eq_nil_of_le (by rw [HLN.out]; omega)
            rw [e0, show ln - k = 0 by omega]
            exact Bs.none' _ _ _
          · rintro a' n' c' e
            injection e with _ e2 e3
            omega
          · intro b e
            cases a with
            | none => cases e
            | some ad => exact e
        · go_ret
          refine ⟨rfl, HPOST.out _ (HB2.out.drop HLN.out hk2) ?_ ?_⟩
          · rintro a' n' c' e
            injection e with _ e2 e3
            omega
          · intro b e
            cases a with
            | none => cases e
            | some ad =>
              have hb : (ad.add k).block = ad.block := by unfold Addr.add; split <;> rfl
              simp only [Option.map, Value.ownBlock, hb] at e ⊢
              exact e
end Go.Proofs.Ytakjiicnbocjeaa
namespace Go.Proofs.Ytakjiicnbocjeaa
open Go.RowKit Go.Maps
theorem cTFlag (w : World) (g : Nat) (TS : Nat → Prop) (bs : List Int) (bad : Bool) (h : TK w g TS bs bad) :
    Calls Try.prog 63 #[.pointer (some ⟨g, 0, none⟩)] w fun e w' => e = .returned (.bool ((numT bs bad 0 1).1 == 1)) ∧ TK w' g TS (numT bs bad 0 1).2.1 (numT bs bad 0 1).2.2 ∧ Fr TS w w' := by
  have H := Lib.hid (cTNum w g TS bs bad 0 1 h)
  clear h
  obtain ⟨n, hn⟩ : ∃ n, (numT bs bad 0 1).1 = n := ⟨_, rfl⟩
  rw [hn] at H ⊢
  clear hn
  go_enter Try.func63, Try.ntmps63
  go_wp2_with fail
  refine H.out.mono ?_
  rintro e w1 ⟨rfl, hT, hF⟩
  go_wp2_with fail
  go_ret
  exact ⟨rfl, hT, hF⟩
def doneT (bs : List Int) (bad : Bool) : Int := if bad = true ∨ bs ≠ [] then 10 else 0
theorem cTDone (w : World) (g : Nat) (TS : Nat → Prop) (bs : List Int) (bad : Bool) (h : TK w g TS bs bad) :
    Calls Try.prog 45 #[.pointer (some ⟨g, 0, none⟩)] w fun e w' => e = .returned (.int .i64 (doneT bs bad)) ∧ w = w' := by
  obtain ⟨⟨v, h1, h2, -, -⟩, -, -⟩ := h
  obtain ⟨hlen, a, c, rfl, -⟩ := id h2
  have b0 := cell_obj h1 0 (.slice a bs.length c) rfl
  have b1 := cell_obj h1 1 (.bool bad) rfl
  clear h1 h2
  cases bad with
  | true =>
    clear b0
    rw [show doneT bs true = 10 by simp [doneT]]
    go_enter Try.func45, Try.ntmps45
    go_wp2
    go_ret
    exact ⟨rfl, rfl⟩
  | false =>
    cases bs with
    | nil =>
      rw [show doneT [] false = 0 by simp [doneT]]
      go_enter Try.func45, Try.ntmps45
      go_wp2
      go_ret
      exact ⟨rfl, rfl⟩
    | cons x r =>
      obtain ⟨n, hn⟩ : ∃ n, (x :: r).length = n + 1 := ⟨r.length, rfl⟩
      rw [hn] at b0 hlen
      clear hn
      rw [show doneT (x :: r) false = 10 by simp [doneT]]
      go_enter Try.func45, Try.ntmps45
      go_wp2
      go_ret
      exact ⟨rfl, rfl⟩
end Go.Proofs.Ytakjiicnbocjeaa
namespace Go.Proofs.Ytakjiicnbocjeaa
open Go.RowKit Go.Maps
theorem bitLen_lt : ∀ (f x : Nat), x < 2 ^ f → x < 2 ^ (Lib.bitLenAux f x)
  | 0, x, h => by simp at h; subst h; simp [Lib.bitLenAux]
  | f + 1, x, h => by
    unfold Lib.bitLenAux
    by_cases h0 : x = 0
    · simp [h0]
    · rw [if_neg h0, Nat.add_comm 1, Nat.pow_succ]
      have := bitLen_lt f (x / 2) (by rw [Nat.pow_succ] at h; omega)
      omega
theorem nSz_lt {u : Nat} (h : u < 18446744073709551616) : u < 256 ^ nSz u := by
  have h1 : u < 2 ^ Lib.bitLen u := bitLen_lt 64 u h
  refine Nat.lt_of_lt_of_le h1 ?_
  rw [show (256 : Nat) = 2 ^ 8 from rfl, ← Nat.pow_mul]
  refine Nat.pow_le_pow_right (by omega) ?_
  unfold nSz; omega
theorem or_add (x c : Nat) (hx : x < 72057594037927936) (hc : c < 256) : bits .or .u64 (IntKind.u64.wrap ((x : Int) * 256)) (c : Int) = ((x * 256 + c : Nat) : Int) := by
  have e1 : IntKind.u64.wrap ((x : Int) * 256) = ((x * 256 : Nat) : Int) := by
    show ((x : Int) * 256) % 18446744073709551616 = _
    omega
  rw [e1, u64_or_nat _ _ (by omega) (by omega)]
  congr 1
  have := Nat.two_pow_add_eq_or_of_lt (i := 8) (b := c) (by omega) x
  rw [Nat.mul_comm x 256]
  exact this.symm
/-- The bytes back. -/
theorem dU_beB (u : Nat) : ∀ (k : Nat) (a : Nat), k ≤ 8 → a * 256 ^ k + u % 256 ^ k < 18446744073709551616 → (beB u k).foldl dStep (a : Int) = ((a * 256 ^ k + u % 256 ^ k : Nat) : Int)
  | 0, a, _, _ => by simp [beB, Nat.mod_one]
  | k + 1, a, hk, h => by
    simp only [beB, List.foldl_cons]
    have hpos : 0 < 256 ^ k := Nat.pow_pos (by omega)
    have hsp : u % 256 ^ (k + 1) = (u / 256 ^ k % 256) * 256 ^ k + u % 256 ^ k := by
      rw [Nat.pow_succ, Nat.mod_mul, Nat.add_comm, Nat.mul_comm]
    have hx : a < 72057594037927936 := by
      refine Nat.lt_of_not_le fun hge => ?_
      have h1 : a * 256 ≤ a * 256 ^ (k + 1) := Nat.mul_le_mul_left _ (by rw [Nat.pow_succ]; omega)
      omega
    have e1 : dStep (a : Int) ((u / 256 ^ k % 256 : Nat) : Int) = ((a * 256 + u / 256 ^ k % 256 : Nat) : Int) := or_add a _ hx (Nat.mod_lt _ (by omega))
    rw [e1]
    have e2 : (a * 256 + u / 256 ^ k % 256) * 256 ^ k + u % 256 ^ k = a * 256 ^ (k + 1) + u % 256 ^ (k + 1) := by
      rw [hsp, Nat.pow_succ, Nat.add_mul, Nat.mul_assoc, Nat.mul_comm 256, Nat.add_assoc]
    rw [dU_beB u k _ (by omega) (by rw [e2]; exact h), e2]
theorem dU_num {u : Nat} (h : u < 9223372036854775808) : dU (beB u (nSz u)) = (u : Int) := by
  have hl := nSz_lt (u := u) (by omega)
  have := dU_beB u (nSz u) 0 (nSz_le (by omega)) (by rw [Nat.mod_eq_of_lt hl]; omega)
  rw [Nat.mod_eq_of_lt hl] at this
  simpa [dU] using this
theorem xorOnes' (m : Nat) (h : m < 18446744073709551616) : bits .xor .u64 (m : Int) 18446744073709551615 = ((18446744073709551615 - m : Nat) : Int) := by
  rw [show (18446744073709551615 : Int) = ((18446744073709551615 : Nat) : Int) from rfl, u64_xor_nat _ _ h (by omega), Nat.xor_comm, xorOnes _ h]
theorem xorZero (m : Nat) (h : m < 18446744073709551616) : bits .xor .u64 (m : Int) 0 = (m : Int) := by
  rw [show (0 : Int) = ((0 : Nat) : Int) from rfl, u64_xor_nat _ _ h (by omega)]
  simp
theorem numB_big {n : Int} (h : ¬ (0 ≤ n ∧ n < 128)) : numB n = (numH n + nSz (numU n)) :: beB (numU n) (nSz (numU n)) := by unfold numB; rw [if_neg h]
/-- A NUMBER'S CELL IS READ AS THAT NUMBER, whatever follows. -/
theorem firstB_num {n : Int} (hn : okI n) (r : List Int) : firstB (numB n ++ r) = some (n, (numB n).length) := by
  by_cases h : 0 ≤ n ∧ n < 128
  · have e : numB n = [n] := by unfold numB; rw [if_pos h]
    rw [e]
    simp [firstB, h.2]
  · have hU := numU_lt hn
    have hs8 := nSz_le (u := numU n) (by omega)
    have hl : (beB (numU n) (nSz (numU n))).length = nSz (numU n) := beB_len _ _
    have hd := dU_num hU
    have hfull := numB_big h
    rw [hfull]
    obtain ⟨s, hs⟩ : ∃ s, nSz (numU n) = s := ⟨_, rfl⟩
    rw [hs] at hs8 hl hd hfull ⊢
    have hH : dSize (numH n + s) = s ∧ dTurn (numH n + s) = (if n < 0 then 18446744073709551615 else 0) := by
      unfold dSize dTurn numH
      by_cases h0 : n < 0
      · rw [if_pos h0, if_pos (by omega), if_pos (by omega), if_pos h0]; omega
      · rw [if_neg h0, if_neg (by omega), if_neg (by omega), if_neg h0]; omega
    have hge : ¬ numH n + (s : Int) < 128 := by unfold numH; split <;> omega
    have htk : (beB (numU n) s ++ r).take s = beB (numU n) s := by rw [List.take_append_of_le_length (by omega), List.take_of_length_le (by omega)]
    have hN : dN (numH n + s) (beB (numU n) s) = n := by
      unfold dN
      rw [hd, hH.2]
      unfold okI at hn
      by_cases h0 : n < 0
      · rw [if_pos h0, xorOnes' _ (by omega)]
        unfold wrap64 numU
        rw [if_pos h0]
        omega
      · rw [if_neg h0, xorZero _ (by omega)]
        unfold wrap64 numU
        rw [if_neg h0]
        omega
    simp only [List.cons_append, firstB, hge, if_false, hH.1, Int.toNat_natCast, htk, hN]
    rw [if_neg (by simp only [List.length_append, hl]; omega), if_pos hfull]
    simp only [List.length_cons, hl, Nat.add_comm]
/-- What is read begins with that number's cell. -/
theorem firstB_of {bs : List Int} {n : Int} {k : Nat} (h : firstB bs = some (n, k)) (hb : ∀ x ∈ bs, 0 ≤ x ∧ x < 256) : okI n ∧ k = (numB n).length ∧ bs = numB n ++ bs.drop k := by
  cases bs with
  | nil => cases h
  | cons a r =>
    simp only [firstB] at h
    by_cases ha : a < 128
    · rw [if_pos ha] at h
      cases h
      have h0 := (hb n (by simp)).1
      have e : numB n = [n] := by unfold numB; rw [if_pos ⟨h0, ha⟩]
      refine ⟨by unfold okI; omega, by rw [e]; rfl, by rw [e]; rfl⟩
    · rw [if_neg ha] at h
      split at h
      · cases h
      · rename_i hs
        split at h
        · rename_i he
          injection h with h
          injection h with h1 h2
          subst h2
          rw [h1] at he
          have hok : okI n := by rw [← h1]; unfold dN wrap64 okI; omega
          have hS0 : 0 ≤ dSize a := by unfold dSize; split <;> omega
          have hl : (r.take (dSize a).toNat).length = (dSize a).toNat := by rw [List.length_take]; omega
          refine ⟨hok, by rw [he, List.length_cons, hl, Nat.add_comm], ?_⟩
          rw [he, Nat.add_comm, List.drop_succ_cons, List.cons_append, List.take_append_drop]
        · cases h
end Go.Proofs.Ytakjiicnbocjeaa
namespace Go.Proofs.Ytakjiicnbocjeaa
open Go.RowKit Go.Maps
abbrev Mst := List Int × Bool
def mkP (s : Mst) (c : List Int) : Mst := (putB s.1 s.2 c, putL s.1 s.2 c)
def mkAll (s : Mst) (cs : List (List Int)) : Mst := cs.foldl mkP s
/-- A row's cells. -/
def rowCs (n : Int) (r : RowV) : List (List Int) := [numB n, numB (r.mix / 4294967296), numB (bits .and .u64 r.mix 4294967295), [if r.done then 1 else 0]] ++ (if r.done = true then [numB r.a.code, numB r.a.k] else [])
structure RowOk (r : RowV) : Prop where
  mix0 : 0 ≤ r.mix
  mix1 : r.mix < 18446744073709551616
  code : okI r.a.code
  k : okI r.a.k
theorem and32 {x : Int} (h0 : 0 ≤ x) (h1 : x < 18446744073709551616) : 0 ≤ bits .and .u64 x 4294967295 ∧ bits .and .u64 x 4294967295 ≤ 4294967295 := by
  obtain ⟨n, rfl⟩ : ∃ n : Nat, x = n := ⟨x.toNat, by omega⟩
  rw [show (4294967295 : Int) = ((4294967295 : Nat) : Int) from rfl, u64_and_nat _ _ (by omega) (by omega)]
  have := Nat.and_le_right (n := n) (m := 4294967295)
  omega
set_option maxRecDepth 100000 in
set_option maxHeartbeats 1000000 in
theorem iPut (w : World) (g : Nat) (TS : Nat → Prop) (s : Mst) (n : Int) (r : RowV) (h : MK w g TS s.1 s.2) (hn : okI n) (hr : RowOk r) :
    Calls Try.prog 37 #[.pointer (some ⟨g, 0, none⟩), .int .i64 n, r.enc] w fun e w' => (∃ v, e = .returned v) ∧ ∃ TS', MK w' g TS' (mkAll s (rowCs n r)).1 (mkAll s (rowCs n r)).2 ∧ Stp TS w w' TS' := by
  obtain ⟨mix, dn, ⟨ac, an, acode, ak⟩⟩ := r
  have HM := Lib.hid h; have HR := Lib.hid hr; have HN := Lib.hid hn
  obtain ⟨m0, m1, -, -⟩ := id hr
  dsimp only at m0 m1
  clear h hr hn
  unfold RowV.enc
  dsimp only
  go_enter Try.func37, Try.ntmps37
  go_wp2_with fail
  have hW := HM.out.fr (((Fr.refl (fun _ => False) w).alloc (.cells #[.int .u64 mix, .bool dn, .int .i64 ac, .int .i64 an, .int .i64 acode, .int .i64 ak] 73)).drew) (fun _ _ h => h)
  have hb := heap_new w (.cells #[.int .u64 mix, .bool dn, .int .i64 ac, .int .i64 an, .int .i64 acode, .int .i64 ak] 73)
  have hnb : ¬ TS w.heap.size := fun e => by have := HM.out.lt _ e; omega
  have hF0 : Fr (fun _ => False) w (w.alloc (.cells #[.int .u64 mix, .bool dn, .int .i64 ac, .int .i64 an, .int .i64 acode, .int .i64 ak] 73)) := (Fr.refl _ _).alloc _
  obtain ⟨rb, hrb⟩ : ∃ rb, w.heap.size = rb := ⟨_, rfl⟩
  rw [hrb] at hb hnb ⊢
  obtain ⟨W, hWW⟩ : ∃ W, w.alloc (.cells #[.int .u64 mix, .bool dn, .int .i64 ac, .int .i64 an, .int .i64 acode, .int .i64 ak] 73) = W := ⟨_, rfl⟩
  rw [hWW] at hW hb hF0 ⊢
  clear hWW
  have p0 := cell_obj hb 0 (.int .u64 mix) rfl
  have p1 := cell_obj hb 1 (.bool dn) rfl
  have hM := Lib.hid hW; have hB := Lib.hid hb; have hN := Lib.hid hnb; have HF0 := Lib.hid hF0; have HRB := Lib.hid hrb
  have hS := Lib.hid (Stp.refl (TS := TS) (Fr.refl (fun _ => False) W.drew))
  clear hW hb hnb hF0 hrb
  have hokn := Lib.hid HN.out
  have hlo : 0 ≤ bits .and .u64 mix 4294967295 ∧ bits .and .u64 mix 4294967295 ≤ 4294967295 := and32 m0 m1
  obtain ⟨hi, hhi⟩ : ∃ hi, mix / 4294967296 = hi := ⟨_, rfl⟩
  obtain ⟨lo, hll⟩ : ∃ lo, bits .and .u64 mix 4294967295 = lo := ⟨_, rfl⟩
  have hwh : IntKind.i64.wrap hi = hi := by rw [IntKind.wrap_i64]; omega
  have hwl : IntKind.i64.wrap lo = lo := by rw [IntKind.wrap_i64]; omega
  have hok1 : Hid (okI hi) := Lib.hid (by unfold okI; omega)
  have hok2 : Hid (okI lo) := Lib.hid (by unfold okI; omega)
  clear hlo
  go_region_held3 (fun w' => w'.cell? ⟨rb, 0, none⟩ = some (.int .u64 mix) ∧ w'.cell? ⟨rb, 1, none⟩ = some (.bool dn)) (first | exact ⟨p0, p1⟩ | exact ⟨cell_obj hB.out 0 (.int .u64 mix) rfl, cell_obj hB.out 1 (.bool dn) rfl⟩)
    (first
      | (go_at_call 34; refine (cMNum _ g _ _ _ _ hM.out (by first | exact hokn.out | exact hok1.out | exact hok2.out)).mono ?_; rintro e w1 ⟨rfl, TS1, hMx, hsx⟩; have NB := hN.out; have hBn := Lib.hid (hsx.1.at_ hB.out NB); have hN := Lib.hid (show ¬ TS1 rb from fun e => (hsx.2 _ e).elim NB (fun h => absurd (Array.getElem?_eq_some_iff.1 hB.out).1 (Nat.not_lt.2 h))); have hB := hBn; have hS := Lib.hid (hS.out.trans hsx); have hM := Lib.hid hMx; clear hMx hsx NB hBn)
      | (go_at_call 57; refine (cMFlag _ g _ _ _ dn hM.out).mono ?_; rintro e w1 ⟨rfl, TS1, hMx, hsx⟩; have NB := hN.out; have hBn := Lib.hid (hsx.1.at_ hB.out NB); have hN := Lib.hid (show ¬ TS1 rb from fun e => (hsx.2 _ e).elim NB (fun h => absurd (Array.getElem?_eq_some_iff.1 hB.out).1 (Nat.not_lt.2 h))); have hB := hBn; have hS := Lib.hid (hS.out.trans hsx); have hM := Lib.hid hMx; clear hMx hsx NB hBn))
  have hdone := cell_obj hB.out 1 (.bool dn) rfl
  have hSW : Hid (Stp TS w w1 TS1) := Lib.hid ((Stp.refl HF0.out).trans ((Stp.refl (Fr.refl (fun _ => False) W).drew).trans hS.out))
  have hlast : mkAll s [numB n, numB hi, numB lo, [if dn then 1 else 0]] = mkAll s [numB n, numB hi, numB lo, [if dn then 1 else 0]] := rfl
  obtain ⟨s4, hs4⟩ : ∃ s4, mkAll s [numB n, numB hi, numB lo, [if dn then 1 else 0]] = s4 := ⟨_, rfl⟩
  have hM4 : Hid (MK w1 g TS1 s4.1 s4.2) := Lib.hid (by rw [← hs4]; exact hM.out)
  have hcs : mkAll s (rowCs n ⟨mix, dn, ⟨ac, an, acode, ak⟩⟩) = if dn = true then mkAll s4 [numB acode, numB ak] else s4 := by
    rw [← hs4]
    unfold rowCs mkAll
    dsimp only
    rw [hhi, hll]
    cases dn <;> rfl
  have HCS := Lib.hid hcs
  clear hM hlast hcs hs4 p0 p1 hhi hll
  cases dn with
  | false =>
    go_wp2_with fail
    go_end0
    rw [HCS.out]
    exact ⟨⟨_, rfl⟩, TS1, hM4.out, hSW.out⟩
  | true =>
    have p4 := cell_obj hB.out 4 (.int .i64 acode) rfl
    have p5 := cell_obj hB.out 5 (.int .i64 ak) rfl
    have hok3 : Hid (okI acode) := Lib.hid HR.out.code
    have hok4 : Hid (okI ak) := Lib.hid HR.out.k
    have hM := Lib.hid (hM4.out.fr (Fr.refl (fun _ => False) w1).drew (fun _ _ h => h))
    have hS := Lib.hid (hSW.out.trans (Stp.refl (Fr.refl (fun _ => False) w1).drew))
    have hwc : IntKind.i64.wrap acode = acode := by have := hok3.out; unfold okI at this; rw [IntKind.wrap_i64]; omega
    go_wp2_with fail
    go_region_held3 (fun w' => w'.cell? ⟨rb, 4, none⟩ = some (.int .i64 acode) ∧ w'.cell? ⟨rb, 5, none⟩ = some (.int .i64 ak)) (first | exact ⟨p4, p5⟩ | exact ⟨cell_obj hB.out 4 (.int .i64 acode) rfl, cell_obj hB.out 5 (.int .i64 ak) rfl⟩)
      (first
        | (go_at_call 34; refine (cMNum _ g _ _ _ _ hM.out (by first | exact hok3.out | exact hok4.out)).mono ?_; rintro e w1 ⟨rfl, TS1, hMx, hsx⟩; have NB := hN.out; have hBn := Lib.hid (hsx.1.at_ hB.out NB); have hN := Lib.hid (show ¬ TS1 rb from fun e => (hsx.2 _ e).elim NB (fun h => absurd (Array.getElem?_eq_some_iff.1 hB.out).1 (Nat.not_lt.2 h))); have hB := hBn; have hS := Lib.hid (hS.out.trans hsx); have hM := Lib.hid hMx; clear hMx hsx NB hBn))
    go_wp2_with fail
    go_end0
    rw [HCS.out]
    exact ⟨⟨_, rfl⟩, TS1, hM.out, hS.out⟩
end Go.Proofs.Ytakjiicnbocjeaa
namespace Go.Proofs.Ytakjiicnbocjeaa
open Go.RowKit Go.Maps
abbrev Tst := List Int × Bool
def tk (t : Tst) (a b : Int) : Int × Tst := ((numT t.1 t.2 a b).1, (numT t.1 t.2 a b).2)
def mixOf (h l : Int) : Int := bits .or .u64 (h * 4294967296) l
/-- A number and its row, and what is left. -/
def readT (t : Tst) (c : Int) : (Int × RowV) × Tst :=
  let n := tk t 1 4294967296
  let h := tk n.2 0 4294967295
  let l := tk h.2 0 4294967295
  let f := tk l.2 0 1
  if (f.1 == 1) = true then
    let x := tk f.2 0 1000
    let k := tk x.2 (-9223372036854775808) 9223372036854775807
    ((n.1, ⟨mixOf h.1 l.1, true, ⟨c, n.1, x.1, k.1⟩⟩), k.2)
  else ((n.1, ⟨mixOf h.1 l.1, false, Ans.zero⟩), f.2)
theorem firstB_i64 {bs : List Int} {n : Int} {k : Nat} (h : firstB bs = some (n, k)) : n < 128 ∨ okI n := by
  cases bs with
  | nil => cases h
  | cons a r =>
    simp only [firstB] at h
    split at h
    · cases h; exact .inl (by assumption)
    · split at h
      · cases h
      · split at h
        · injection h with h
          injection h with h1 h2
          right; rw [← h1]; unfold dN wrap64 okI; omega
        · cases h
theorem tk_in (t : Tst) {a b : Int} (h0 : a ≤ 0) (h1 : 0 ≤ b) : a ≤ (tk t a b).1 ∧ (tk t a b).1 ≤ b := by
  unfold tk numT
  dsimp only
  split
  · exact ⟨h0, h1⟩
  · split
    · split
      · exact ⟨h0, h1⟩
      · dsimp only; omega
    · exact ⟨h0, h1⟩
theorem tk_in1 (t : Tst) {b : Int} (h1 : 0 ≤ b) : 0 ≤ (tk t 1 b).1 ∧ (tk t 1 b).1 ≤ b := by
  unfold tk numT
  dsimp only
  split
  · exact ⟨by omega, h1⟩
  · split
    · split
      · exact ⟨by omega, h1⟩
      · dsimp only; omega
    · exact ⟨by omega, h1⟩
theorem xTk (w : World) (g : Nat) (TS : Nat → Prop) (t : Tst) (a b : Int) (h : TK w g TS t.1 t.2) :
    Calls Try.prog 43 #[.pointer (some ⟨g, 0, none⟩), .int .i64 a, .int .i64 b] w fun e w' => e = .returned (.int .i64 (tk t a b).1) ∧ TK w' g TS (tk t a b).2.1 (tk t a b).2.2 ∧ Fr TS w w' := cTNum w g TS t.1 t.2 a b h
theorem xTkF (w : World) (g : Nat) (TS : Nat → Prop) (t : Tst) (h : TK w g TS t.1 t.2) :
    Calls Try.prog 63 #[.pointer (some ⟨g, 0, none⟩)] w fun e w' => e = .returned (.bool ((tk t 0 1).1 == 1)) ∧ TK w' g TS (tk t 0 1).2.1 (tk t 0 1).2.2 ∧ Fr TS w w' := cTFlag w g TS t.1 t.2 h
set_option maxRecDepth 100000 in
set_option maxHeartbeats 16000000 in
theorem iRead (w : World) (g : Nat) (TS : Nat → Prop) (t : Tst) (c : Int) (h : TK w g TS t.1 t.2) :
    Calls Try.prog 44 #[.pointer (some ⟨g, 0, none⟩), .int .i64 c] w fun e w' => e = .returned (.tuple #[.int .i64 (readT t c).1.1, (readT t c).1.2.enc]) ∧ TK w' g TS (readT t c).2.1 (readT t c).2.2 ∧ Fr TS w w' := by
  have hW := h.fr ((Fr.refl (fun _ => False) w).alloc (.cells #[.int .u64 0, .bool false, .int .i64 0, .int .i64 0, .int .i64 0, .int .i64 0] 73)) (fun _ _ h => h)
  have hb := heap_new w (.cells #[.int .u64 0, .bool false, .int .i64 0, .int .i64 0, .int .i64 0, .int .i64 0] 73)
  have hnb : ¬ TS w.heap.size := fun e => by have := h.lt _ e; omega
  have hF0 : Fr TS w (w.alloc (.cells #[.int .u64 0, .bool false, .int .i64 0, .int .i64 0, .int .i64 0, .int .i64 0] 73)) := (Fr.refl _ _).alloc _
  have HT := Lib.hid hW; have HB := Lib.hid hb; have HN0 := Lib.hid hnb; have HF0 := Lib.hid hF0
  clear h hW hb hnb hF0
  go_enter Try.func44, Try.ntmps44
  go_wp2_with fail
  obtain ⟨rb, hrb⟩ : ∃ rb, w.heap.size = rb := ⟨_, rfl⟩
  obtain ⟨W, hWW⟩ : ∃ W, w.alloc (.cells #[.int .u64 0, .bool false, .int .i64 0, .int .i64 0, .int .i64 0, .int .i64 0] 73) = W := ⟨_, rfl⟩
  rw [hrb] at HB HN0 ⊢
  rw [hWW] at HT HB HF0 ⊢
  have HWBB : Hid (w.heap.size ≤ rb) := Lib.hid (by omega)
  clear hrb hWW
  refine (xTk _ g TS t 1 4294967296 HT.out).mono ?_
  obtain ⟨n, hn⟩ : ∃ n, tk t 1 4294967296 = n := ⟨_, rfl⟩
  rw [hn]
  rintro e w1 ⟨rfl, hT1, hF1⟩
  have HT1 := Lib.hid hT1; have HF1 := Lib.hid hF1; have HN := Lib.hid hn
  clear hT1 hF1 hn
  go_wp2_with fail
  refine (xTk _ g TS n.2 0 4294967295 HT1.out).mono ?_
  have hh := tk_in n.2 (a := 0) (b := 4294967295) (by omega) (by omega)
  obtain ⟨hi, hhi⟩ : ∃ x, tk n.2 0 4294967295 = x := ⟨_, rfl⟩
  rw [hhi] at hh ⊢
  rintro e w2 ⟨rfl, hT2, hF2⟩
  have HF2 := Lib.hid ((HF0.out.trans HF1.out).trans hF2)
  have HT2 := Lib.hid hT2; have HH := Lib.hid hhi
  have HB2 := Lib.hid (hF2.at_ (HF1.out.at_ HB.out HN0.out) HN0.out)
  obtain ⟨hh0, hh1⟩ := hh
  clear hT2 hF2 hhi
  go_wp2_with fail
  refine (xTk _ g TS hi.2 0 4294967295 HT2.out).mono ?_
  have hl := tk_in hi.2 (a := 0) (b := 4294967295) (by omega) (by omega)
  obtain ⟨lo, hlo⟩ : ∃ x, tk hi.2 0 4294967295 = x := ⟨_, rfl⟩
  rw [hlo] at hl ⊢
  rintro e w3 ⟨rfl, hT3, hF3⟩
  have HF3 := Lib.hid (HF2.out.trans hF3)
  have HT3 := Lib.hid hT3; have HL := Lib.hid hlo
  have HB3 := Lib.hid (hF3.at_ HB2.out HN0.out)
  obtain ⟨hl0, hl1⟩ := hl
  clear hT3 hF3 hlo HF1 HF2 HB HB2 HT HT1 HT2
  have b0 := cell_obj HB3.out 0 (.int .u64 0) rfl
  have f0 := obj_frozen HB3.out 0
  have b1 := cell_obj HB3.out 1 (.bool false) rfl
  have f1 := obj_frozen HB3.out 1
  go_wp2_with fail
  obtain ⟨mx, hmx⟩ : ∃ mx, bits .or .u64 (hi.1 * 4294967296) lo.1 = mx := ⟨_, rfl⟩
  rw [hmx]
  have HMX : Hid (mixOf hi.1 lo.1 = mx) := Lib.hid hmx
  have hrb : rb < w3.heap.size := (Array.getElem?_eq_some_iff.1 HB3.out).1
  have h4 := HT3.out.fr ((Fr.refl (fun _ => False) w3).alloc (.cells #[.int .u64 mx, .bool false, .int .i64 0, .int .i64 0, .int .i64 0, .int .i64 0] 73)) (fun _ _ h => h)
  have hr4 := heap_new w3 (.cells #[.int .u64 mx, .bool false, .int .i64 0, .int .i64 0, .int .i64 0, .int .i64 0] 73)
  have hb4 := heap_keep HB3.out (.cells #[.int .u64 mx, .bool false, .int .i64 0, .int .i64 0, .int .i64 0, .int .i64 0] 73)
  have hn4 : ¬ TS w3.heap.size := fun e => by have := HT3.out.lt _ e; omega
  have hf4 := HF3.out.alloc (.cells #[.int .u64 mx, .bool false, .int .i64 0, .int .i64 0, .int .i64 0, .int .i64 0] 73)
  obtain ⟨ra, hra⟩ : ∃ ra, w3.heap.size = ra := ⟨_, rfl⟩
  rw [hra] at hr4 hn4 hrb ⊢
  have hws : w.heap.size ≤ ra := by rw [← hra]; exact HF3.out.size
  obtain ⟨W4, hW4⟩ : ∃ W4, w3.alloc (.cells #[.int .u64 mx, .bool false, .int .i64 0, .int .i64 0, .int .i64 0, .int .i64 0] 73) = W4 := ⟨_, rfl⟩
  rw [hW4] at h4 hr4 hb4 hf4 ⊢
  have HT4 := Lib.hid h4; have HR4 := Lib.hid hr4; have HB4 := Lib.hid hb4; have HN4 := Lib.hid hn4; have HF4 := Lib.hid hf4; have HWS := Lib.hid hws
  clear h4 hr4 hb4 hn4 hf4 hW4 hra hmx HT3 HB3 HF3 b0 f0 b1 f1 hws
  refine (xTkF _ g TS lo.2 HT4.out).mono ?_
  obtain ⟨fl, hfl⟩ : ∃ x, tk lo.2 0 1 = x := ⟨_, rfl⟩
  rw [hfl]
  obtain ⟨db, hdb⟩ : ∃ db, (fl.1 == 1) = db := ⟨_, rfl⟩
  rw [hdb]
  rintro e w5 ⟨rfl, hT5, hF5⟩
  have HT5 := Lib.hid hT5; have HF5 := Lib.hid (HF4.out.trans' hF5 (fun _ _ h => h))
  have HR5 := Lib.hid (hF5.at_ HR4.out HN4.out); have HB5 := Lib.hid (hF5.at_ HB4.out HN0.out)
  have hrd : readT t c = if db = true then ((n.1, ⟨mx, true, ⟨c, n.1, (tk fl.2 0 1000).1, (tk (tk fl.2 0 1000).2 (-9223372036854775808) 9223372036854775807).1⟩⟩), (tk (tk fl.2 0 1000).2 (-9223372036854775808) 9223372036854775807).2) else ((n.1, ⟨mx, false, Ans.zero⟩), fl.2) := by
    unfold readT
    simp only [HN.out, HH.out, HL.out, hfl, hdb, HMX.out]
  have HRD := Lib.hid hrd
  clear hT5 hF5 hrd hfl hdb HT4 HR4 HB4 HF4
  have b1 := cell_obj HR5.out 1 (.bool false) rfl
  have f1 := obj_frozen HR5.out 1
  have HWB : Hid (w.heap.size ≤ rb) := HWBB
  have HWB : Hid (w.heap.size ≤ rb) := HWBB
  have HWB : Hid (w.heap.size ≤ rb) := HWBB
  have HWB : Hid (w.heap.size ≤ rb) := HWBB
  cases db with
  | false =>
    have hF6 : Fr (fun b => b = ra) w5 (w5.setCell ⟨ra, 1, none⟩ (.bool false)) := (Fr.refl (fun b => b = ra) w5).setCell (p := ⟨ra, 1, none⟩) (fun _ => rfl) _
    have HRW := Lib.hid (obj_set HR5.out 1 (.bool false))
    have HBW := Lib.hid (hF6.at_ HB5.out (fun e => by omega))
    have HTW := Lib.hid (HT5.out.fr hF6 (fun b hb e => HN4.out (e ▸ hb)))
    have HFW := Lib.hid (HF5.out.trans' hF6 (fun b hb e => absurd hb (by rw [e]; have := HWS.out; omega)))
    clear hF6
    go_wp2_with fail
    generalize w5.setCell ⟨ra, 1, none⟩ (.bool false) = W6 at *
    have k0 := cell_obj HRW.out 0 (.int .u64 mx) rfl
    have k1 := cell_obj HRW.out 1 (.bool false) rfl
    have k2 := cell_obj HRW.out 2 (.int .i64 0) rfl
    have k3 := cell_obj HRW.out 3 (.int .i64 0) rfl
    have k4 := cell_obj HRW.out 4 (.int .i64 0) rfl
    have k5 := cell_obj HRW.out 5 (.int .i64 0) rfl
    have z0 := cell_obj HBW.out 0 (.int .u64 0) rfl
    have y0 := obj_frozen HBW.out 0
    have z1 := cell_obj HBW.out 1 (.bool false) rfl
    have y1 := obj_frozen HBW.out 1
    have z2 := cell_obj HBW.out 2 (.int .i64 0) rfl
    have y2 := obj_frozen HBW.out 2
    have z3 := cell_obj HBW.out 3 (.int .i64 0) rfl
    have y3 := obj_frozen HBW.out 3
    have z4 := cell_obj HBW.out 4 (.int .i64 0) rfl
    have y4 := obj_frozen HBW.out 4
    have z5 := cell_obj HBW.out 5 (.int .i64 0) rfl
    have y5 := obj_frozen HBW.out 5
    have hne : rb ≠ ra := Nat.ne_of_lt hrb
    have hne2 : ra ≠ rb := hne.symm
    go_region
    clear k0 k1 k2 k3 k4 k5 z0 z1 z2 z3 z4 z5 y0 y1 y2 y3 y4 y5
    go_wp2_with fail
    have hob : ((((((W6.setCell ⟨rb, 0, none⟩ (.int .u64 mx)).setCell ⟨rb, 1, none⟩ (.bool false)).setCell ⟨rb, 2, none⟩ (.int .i64 0)).setCell ⟨rb, 3, none⟩ (.int .i64 0)).setCell ⟨rb, 4, none⟩ (.int .i64 0)).setCell ⟨rb, 5, none⟩ (.int .i64 0)).heap[rb]? = some (.cells #[.int .u64 mx, .bool false, .int .i64 0, .int .i64 0, .int .i64 0, .int .i64 0] 73) := (obj_set (obj_set (obj_set (obj_set (obj_set (obj_set HBW.out 0 (.int .u64 mx)) 1 (.bool false)) 2 (.int .i64 0)) 3 (.int .i64 0)) 4 (.int .i64 0)) 5 (.int .i64 0))
    have hff := (((((((Fr.refl (fun b => b = rb) W6).setCell (p := ⟨rb, 0, none⟩) (fun _ => rfl) (.int .u64 mx)).setCell (p := ⟨rb, 1, none⟩) (fun _ => rfl) (.bool false)).setCell (p := ⟨rb, 2, none⟩) (fun _ => rfl) (.int .i64 0)).setCell (p := ⟨rb, 3, none⟩) (fun _ => rfl) (.int .i64 0)).setCell (p := ⟨rb, 4, none⟩) (fun _ => rfl) (.int .i64 0)).setCell (p := ⟨rb, 5, none⟩) (fun _ => rfl) (.int .i64 0))
    obtain ⟨WE, hWE⟩ : ∃ WE, ((((((W6.setCell ⟨rb, 0, none⟩ (.int .u64 mx)).setCell ⟨rb, 1, none⟩ (.bool false)).setCell ⟨rb, 2, none⟩ (.int .i64 0)).setCell ⟨rb, 3, none⟩ (.int .i64 0)).setCell ⟨rb, 4, none⟩ (.int .i64 0)).setCell ⟨rb, 5, none⟩ (.int .i64 0)) = WE := ⟨_, rfl⟩
    rw [hWE] at hob hff ⊢
    clear hWE
    have hWF : WE.drew.heap[rb]? = some (.cells #[.int .u64 mx, .bool false, .int .i64 0, .int .i64 0, .int .i64 0, .int .i64 0] 73) := hob
    have hFF := hff.drew
    clear hob hff
    generalize WE.drew = WF at *
    have k0 := cell_obj hWF 0 (.int .u64 mx) rfl
    have k1 := cell_obj hWF 1 (.bool false) rfl
    have k2 := cell_obj hWF 2 (.int .i64 0) rfl
    have k3 := cell_obj hWF 3 (.int .i64 0) rfl
    have k4 := cell_obj hWF 4 (.int .i64 0) rfl
    have k5 := cell_obj hWF 5 (.int .i64 0) rfl
    refine bodyPost_ret (by simp [results, Try.results44, go_sem, k0, k1, k2, k3, k4, k5]; rfl) rfl ?_
    rw [HRD.out]
    refine ⟨rfl, HTW.out.fr hFF (fun b hb e => HN0.out (e ▸ hb)), HFW.out.trans' hFF (fun b hb e => ?_)⟩
    exact absurd hb (by rw [e]; have := HWB.out; omega)
  | true =>
    have hF6 : Fr (fun b => b = ra) w5 (w5.setCell ⟨ra, 1, none⟩ (.bool true)) := (Fr.refl (fun b => b = ra) w5).setCell (p := ⟨ra, 1, none⟩) (fun _ => rfl) _
    have HRW := Lib.hid (obj_set HR5.out 1 (.bool true))
    have HBW := Lib.hid (hF6.at_ HB5.out (fun e => by omega))
    have HTW := Lib.hid (HT5.out.fr hF6 (fun b hb e => HN4.out (e ▸ hb)))
    have HFW := Lib.hid (HF5.out.trans' hF6 (fun b hb e => absurd hb (by rw [e]; have := HWS.out; omega)))
    clear hF6
    go_wp2_with fail
    generalize w5.setCell ⟨ra, 1, none⟩ (.bool true) = W6 at *
    refine (xTk _ g TS fl.2 0 1000 HTW.out).mono ?_
    have hx := tk_in fl.2 (a := 0) (b := 1000) (by omega) (by omega)
    obtain ⟨xc, hxc⟩ : ∃ x, tk fl.2 0 1000 = x := ⟨_, rfl⟩
    rw [hxc] at hx HRD ⊢
    rintro e w7 ⟨rfl, hT7, hF7⟩
    have HR7 := Lib.hid (hF7.at_ HRW.out HN4.out); have HB7 := Lib.hid (hF7.at_ HBW.out HN0.out); have HT7 := Lib.hid hT7; have HF7 := Lib.hid (HFW.out.trans' hF7 (fun _ _ h => h))
    obtain ⟨hx0, hx1⟩ := hx
    clear hT7 hF7 hxc HRW HBW HTW HFW HR5 HB5 HT5 HF5 b1 f1
    have q2 := cell_obj HR7.out 2 (.int .i64 0) rfl
    have q3 := cell_obj HR7.out 3 (.int .i64 0) rfl
    have q4 := cell_obj HR7.out 4 (.int .i64 0) rfl
    have q5 := cell_obj HR7.out 5 (.int .i64 0) rfl
    have y2 := obj_frozen HR7.out 2
    have y3 := obj_frozen HR7.out 3
    have y4 := obj_frozen HR7.out 4
    have y5 := obj_frozen HR7.out 5
    go_wp2_with fail
    clear q2 q3 q4 q5 y2 y3 y4 y5
    obtain ⟨W8, hW8⟩ : ∃ W8, (((w7.setCell ⟨ra, 2, none⟩ (.int .i64 c)).setCell ⟨ra, 3, none⟩ (.int .i64 n.1)).setCell ⟨ra, 4, none⟩ (.int .i64 xc.1)).setCell ⟨ra, 5, none⟩ (.int .i64 0) = W8 := ⟨_, rfl⟩
    have hR8 := obj_set (obj_set (obj_set (obj_set HR7.out 2 (.int .i64 c)) 3 (.int .i64 n.1)) 4 (.int .i64 xc.1)) 5 (.int .i64 0)
    have hF8 := ((((Fr.refl (fun b => b = ra) w7).setCell (p := ⟨ra, 2, none⟩) (fun _ => rfl) (.int .i64 c)).setCell (p := ⟨ra, 3, none⟩) (fun _ => rfl) (.int .i64 n.1)).setCell (p := ⟨ra, 4, none⟩) (fun _ => rfl) (.int .i64 xc.1)).setCell (p := ⟨ra, 5, none⟩) (fun _ => rfl) (.int .i64 0)
    rw [hW8] at hR8 hF8
    have HR8 := Lib.hid hR8
    have HB8 := Lib.hid (hF8.at_ HB7.out (fun e => by omega))
    have HT8 := Lib.hid (HT7.out.fr hF8 (fun b hb e => HN4.out (e ▸ hb)))
    have HF8 := Lib.hid (HF7.out.trans' hF8 (fun b hb e => absurd hb (by rw [e]; have := HWS.out; omega)))
    rw [hW8]
    clear hR8 hF8 hW8 HR7 HB7 HT7 HF7
    refine (xTk _ g TS xc.2 (-9223372036854775808) 9223372036854775807 HT8.out).mono ?_
    obtain ⟨xk, hxk⟩ : ∃ x, tk xc.2 (-9223372036854775808) 9223372036854775807 = x := ⟨_, rfl⟩
    rw [hxk] at HRD ⊢
    rintro e w9 ⟨rfl, hT9, hF9⟩
    have HR9 := Lib.hid (hF9.at_ HR8.out HN4.out); have HB9 := Lib.hid (hF9.at_ HB8.out HN0.out); have HT9 := Lib.hid hT9; have HF9 := Lib.hid (HF8.out.trans' hF9 (fun _ _ h => h))
    clear hT9 hF9 hxk HR8 HB8 HT8 HF8
    have q5 := cell_obj HR9.out 5 (.int .i64 0) rfl
    have y5 := obj_frozen HR9.out 5
    have hF6 : Fr (fun b => b = ra) w9 (w9.setCell ⟨ra, 5, none⟩ (.int .i64 xk.1)) := (Fr.refl (fun b => b = ra) w9).setCell (p := ⟨ra, 5, none⟩) (fun _ => rfl) _
    have HRW := Lib.hid (obj_set HR9.out 5 (.int .i64 xk.1))
    have HBW := Lib.hid (hF6.at_ HB9.out (fun e => by omega))
    have HTW := Lib.hid (HT9.out.fr hF6 (fun b hb e => HN4.out (e ▸ hb)))
    have HFW := Lib.hid (HF9.out.trans' hF6 (fun b hb e => absurd hb (by rw [e]; have := HWS.out; omega)))
    clear hF6 HR9 HB9 HT9 HF9
    go_wp2_with fail
    generalize w9.setCell ⟨ra, 5, none⟩ (.int .i64 xk.1) = W6' at *
    have k0 := cell_obj HRW.out 0 (.int .u64 mx) rfl
    have k1 := cell_obj HRW.out 1 (.bool true) rfl
    have k2 := cell_obj HRW.out 2 (.int .i64 c) rfl
    have k3 := cell_obj HRW.out 3 (.int .i64 n.1) rfl
    have k4 := cell_obj HRW.out 4 (.int .i64 xc.1) rfl
    have k5 := cell_obj HRW.out 5 (.int .i64 xk.1) rfl
    have z0 := cell_obj HBW.out 0 (.int .u64 0) rfl
    have y0 := obj_frozen HBW.out 0
    have z1 := cell_obj HBW.out 1 (.bool false) rfl
    have y1 := obj_frozen HBW.out 1
    have z2 := cell_obj HBW.out 2 (.int .i64 0) rfl
    have y2 := obj_frozen HBW.out 2
    have z3 := cell_obj HBW.out 3 (.int .i64 0) rfl
    have y3 := obj_frozen HBW.out 3
    have z4 := cell_obj HBW.out 4 (.int .i64 0) rfl
    have y4 := obj_frozen HBW.out 4
    have z5 := cell_obj HBW.out 5 (.int .i64 0) rfl
    have y5 := obj_frozen HBW.out 5
    have hne : rb ≠ ra := Nat.ne_of_lt hrb
    have hne2 : ra ≠ rb := hne.symm
    go_region
    clear k0 k1 k2 k3 k4 k5 z0 z1 z2 z3 z4 z5 y0 y1 y2 y3 y4 y5
    go_wp2_with fail
    have hob : ((((((W6'.setCell ⟨rb, 0, none⟩ (.int .u64 mx)).setCell ⟨rb, 1, none⟩ (.bool true)).setCell ⟨rb, 2, none⟩ (.int .i64 c)).setCell ⟨rb, 3, none⟩ (.int .i64 n.1)).setCell ⟨rb, 4, none⟩ (.int .i64 xc.1)).setCell ⟨rb, 5, none⟩ (.int .i64 xk.1)).heap[rb]? = some (.cells #[.int .u64 mx, .bool true, .int .i64 c, .int .i64 n.1, .int .i64 xc.1, .int .i64 xk.1] 73) := (obj_set (obj_set (obj_set (obj_set (obj_set (obj_set HBW.out 0 (.int .u64 mx)) 1 (.bool true)) 2 (.int .i64 c)) 3 (.int .i64 n.1)) 4 (.int .i64 xc.1)) 5 (.int .i64 xk.1))
    have hff := (((((((Fr.refl (fun b => b = rb) W6').setCell (p := ⟨rb, 0, none⟩) (fun _ => rfl) (.int .u64 mx)).setCell (p := ⟨rb, 1, none⟩) (fun _ => rfl) (.bool true)).setCell (p := ⟨rb, 2, none⟩) (fun _ => rfl) (.int .i64 c)).setCell (p := ⟨rb, 3, none⟩) (fun _ => rfl) (.int .i64 n.1)).setCell (p := ⟨rb, 4, none⟩) (fun _ => rfl) (.int .i64 xc.1)).setCell (p := ⟨rb, 5, none⟩) (fun _ => rfl) (.int .i64 xk.1))
    obtain ⟨WE, hWE⟩ : ∃ WE, ((((((W6'.setCell ⟨rb, 0, none⟩ (.int .u64 mx)).setCell ⟨rb, 1, none⟩ (.bool true)).setCell ⟨rb, 2, none⟩ (.int .i64 c)).setCell ⟨rb, 3, none⟩ (.int .i64 n.1)).setCell ⟨rb, 4, none⟩ (.int .i64 xc.1)).setCell ⟨rb, 5, none⟩ (.int .i64 xk.1)) = WE := ⟨_, rfl⟩
    rw [hWE] at hob hff ⊢
    clear hWE
    have hWF : WE.drew.heap[rb]? = some (.cells #[.int .u64 mx, .bool true, .int .i64 c, .int .i64 n.1, .int .i64 xc.1, .int .i64 xk.1] 73) := hob
    have hFF := hff.drew
    clear hob hff
    generalize WE.drew = WF at *
    have k0 := cell_obj hWF 0 (.int .u64 mx) rfl
    have k1 := cell_obj hWF 1 (.bool true) rfl
    have k2 := cell_obj hWF 2 (.int .i64 c) rfl
    have k3 := cell_obj hWF 3 (.int .i64 n.1) rfl
    have k4 := cell_obj hWF 4 (.int .i64 xc.1) rfl
    have k5 := cell_obj hWF 5 (.int .i64 xk.1) rfl
    refine bodyPost_ret (by simp [results, Try.results44, go_sem, k0, k1, k2, k3, k4, k5]; rfl) rfl ?_
    rw [HRD.out]
    refine ⟨rfl, HTW.out.fr hFF (fun b hb e => HN0.out (e ▸ hb)), HFW.out.trans' hFF (fun b hb e => ?_)⟩
    exact absurd hb (by rw [e]; have := HWB.out; omega)
end Go.Proofs.Ytakjiicnbocjeaa
namespace Go.Proofs.Ytakjiicnbocjeaa
open Go.RowKit Go.Maps
def rowsC (R : Rows) : List (List Int) := R.flatMap fun q => rowCs q.1 q.2
def cliC (p : Int × (Int × Rows)) : List (List Int) := [numB p.1, numB p.2.1, numB p.2.2.length] ++ rowsC p.2.2
def tabC (A : Tbl) : List (List Int) := numB A.length :: A.flatMap cliC
/-- What a table may hold. -/
structure TOk (A : Tbl) : Prop where
  keys : ∀ p ∈ A, isCl p.1 = true
  marks : ∀ p ∈ A, 1 ≤ p.2.1 ∧ p.2.1 ≤ 4294967297
  lens : ∀ p ∈ A, p.2.2.length ≤ 128
  nums : ∀ p ∈ A, ∀ q ∈ p.2.2, isNu q.1 = true
  rows : ∀ p ∈ A, ∀ q ∈ p.2.2, RowOk q.2 ∧ 0 ≤ q.2.a.code ∧ q.2.a.code ≤ 1000
theorem mkAll_app (s : Mst) (a b : List (List Int)) : mkAll s (a ++ b) = mkAll (mkAll s a) b := by simp [mkAll]
theorem mkP_mem {s : Mst} {c : List Int} (hs : ∀ x ∈ s.1, 0 ≤ x ∧ x < 256) (hc : ∀ x ∈ c, 0 ≤ x ∧ x < 256) : ∀ x ∈ (mkP s c).1, 0 ≤ x ∧ x < 256 := by
  intro x hx
  unfold mkP putB at hx
  dsimp only at hx
  split at hx
  · exact hs x hx
  · rcases List.mem_append.1 hx with hx | hx
    · exact hs x hx
    · exact hc x hx
theorem mkAll_mem : ∀ {cs : List (List Int)} {s : Mst}, (∀ x ∈ s.1, 0 ≤ x ∧ x < 256) → (∀ c ∈ cs, ∀ x ∈ c, 0 ≤ x ∧ x < 256) → ∀ x ∈ (mkAll s cs).1, 0 ≤ x ∧ x < 256
  | [], _, hs, _ => hs
  | c :: r, s, hs, hc => mkAll_mem (cs := r) (s := mkP s c) (mkP_mem hs (hc c (by simp))) (fun d hd => hc d (by simp [hd]))
theorem okCl {c : Int} (h : isCl c = true) : okI c := by unfold isCl at h; unfold okI; simp at h; omega
theorem okNu {c : Int} (h : isNu c = true) : okI c := by unfold isNu at h; unfold okI; simp at h; omega
theorem okLen {k : Nat} (h : k ≤ 128) : okI (k : Int) := by unfold okI; omega
set_option maxRecDepth 100000 in
theorem okHi {x : Int} (h0 : 0 ≤ x) (h1 : x < 18446744073709551616) : okI (x / 4294967296) := by unfold okI; omega
set_option maxRecDepth 100000 in
theorem okLo {x : Int} (h : 0 ≤ x ∧ x ≤ 4294967295) : okI x := by unfold okI; omega
set_option maxRecDepth 100000 in
theorem okMk {x : Int} (h : 1 ≤ x ∧ x ≤ 4294967297) : okI x := by unfold okI; omega
set_option maxRecDepth 100000 in
theorem rowCs_mem {n : Int} {r : RowV} (hn : okI n) (hr : RowOk r) : ∀ c ∈ rowCs n r, ∀ x ∈ c, 0 ≤ x ∧ x < 256 := by
  have h1 := and32 hr.mix0 hr.mix1
  have m0 := hr.mix0; have m1 := hr.mix1
  intro c hc x hx
  unfold rowCs at hc
  rcases List.mem_append.1 hc with hc | hc
  · simp only [List.mem_cons, List.not_mem_nil, or_false] at hc
    rcases hc with rfl | rfl | rfl | rfl
    · exact numB_mem hn hx
    · exact numB_mem (okHi m0 m1) hx
    · exact numB_mem (okLo h1) hx
    · cases r.done <;> simp at hx <;> omega
  · split at hc
    · simp only [List.mem_cons, List.not_mem_nil, or_false] at hc
      rcases hc with rfl | rfl
      · exact numB_mem hr.code hx
      · exact numB_mem hr.k hx
    · cases hc
set_option maxRecDepth 100000 in
theorem tabC_mem {A : Tbl} (h : TOk A) (h64 : A.length ≤ 64) : ∀ c ∈ tabC A, ∀ x ∈ c, 0 ≤ x ∧ x < 256 := by
  intro c hc x hx
  rcases List.mem_cons.1 hc with rfl | hc
  · exact numB_mem (okLen (by omega)) hx
  · obtain ⟨p, hp, hc⟩ := List.mem_flatMap.1 hc
    rcases List.mem_append.1 hc with hc | hc
    · simp only [List.mem_cons, List.not_mem_nil, or_false] at hc
      have := h.marks p hp
      rcases hc with rfl | rfl | rfl
      · exact numB_mem (okCl (h.keys p hp)) hx
      · exact numB_mem (okMk this) hx
      · exact numB_mem (okLen (h.lens p hp)) hx
    · obtain ⟨q, hq, hc⟩ := List.mem_flatMap.1 hc
      exact rowCs_mem (okNu (h.nums p hp q hq)) (h.rows p hp q hq).1 c hc x hx
theorem xMNew (w : World) : Calls Try.prog 33 #[] w fun e w' => ∃ gm TS, e = .returned (.pointer (some ⟨gm, 0, none⟩)) ∧ MK w' gm TS [] false ∧ (∀ b, TS b → w.heap.size ≤ b) ∧ Fr (fun _ => False) w w' := by
  refine (cMNew w).mono ?_
  rintro e w' ⟨rfl, h1, h2⟩
  exact ⟨_, _, rfl, h1, fun b hb => by omega, h2⟩
/-- On the way of a maker: it says s, owns TS (behind w0 and TS0), and block rb is as it was. -/
structure PkI (w0 : World) (TS0 : Nat → Prop) (B rb : Nat) (o : Obj) (g : Nat) (TS : Nat → Prop) (w : World) (s : Mst) : Prop where
  mkr : MK w g TS s.1 s.2
  stp : Stp TS0 w0 w TS
  box : w.heap[rb]? = some o
  nb : ¬ TS rb
  low : ∀ b, TS b → B ≤ b
theorem PkI.step {w0 w w' : World} {TS0 TS TS' : Nat → Prop} {B rb g : Nat} {o : Obj} {s s' : Mst} (h : PkI w0 TS0 B rb o g TS w s) (hm : MK w' g TS' s'.1 s'.2) (hs : Stp TS w w' TS') (hB : B ≤ w.heap.size) : PkI w0 TS0 B rb o g TS' w' s' :=
  ⟨hm, h.stp.trans hs, hs.1.at_ h.box h.nb, fun e => (hs.2 _ e).elim h.nb (fun e => absurd (Array.getElem?_eq_some_iff.1 h.box).1 (Nat.not_lt.2 e)), hs.low h.low hB⟩
theorem PkI.num {w0 w w' : World} {TS0 TS TS' : Nat → Prop} {B rb g : Nat} {o : Obj} {s : Mst} {c : List Int} (h : PkI w0 TS0 B rb o g TS w s) (hm : MK w' g TS' (putB s.1 s.2 c) (putL s.1 s.2 c)) (hs : Stp TS w w' TS') (hB : B ≤ w.heap.size) : PkI w0 TS0 B rb o g TS' w' (mkP s c) := h.step (s' := mkP s c) hm hs hB
theorem PkI.drew {w0 w : World} {TS0 TS : Nat → Prop} {B rb g : Nat} {o : Obj} {s : Mst} (h : PkI w0 TS0 B rb o g TS w s) : PkI w0 TS0 B rb o g TS w.drew s :=
  ⟨h.mkr.fr (Fr.refl (fun _ => False) w).drew (fun _ _ h => h), h.stp.trans (Stp.refl (Fr.refl _ _).drew), h.box, h.nb, h.low⟩
theorem PkI.size {w0 w : World} {TS0 TS : Nat → Prop} {B rb g : Nat} {o : Obj} {s : Mst} (h : PkI w0 TS0 B rb o g TS w s) : w0.heap.size ≤ w.heap.size := h.stp.1.size
theorem Tab.below' {w w' : World} {g m : Nat} {l : List (Int × Cl)} {TS : Nat → Prop} (h : Tab w g m l) {B : Nat} (hB : g < B ∧ m < B ∧ ∀ p ∈ l, p.2.b < B) (hf : Fr TS w w') (hT : ∀ b, TS b → B ≤ b) : Tab w' g m l :=
  h.fr hf (fun e => by have := hT _ e; omega) (fun e => by have := hT _ e; omega) (fun p hp e => by have := hT _ e; have := hB.2.2 p hp; omega)
set_option maxRecDepth 100000 in
set_option maxHeartbeats 8000000 in
theorem iPack (w : World) (g m : Nat) (l : List (Int × Cl)) (h : Tab w g m l) (h64 : l.length ≤ 64) (hk : TOk (absl l)) :
    Calls Try.prog 17 #[.pointer (some ⟨g, 0, none⟩)] w fun e w' =>
      Below w.heap.size w w' ∧ ∃ v, e = .returned v ∧ w'.ownsRow w.heap.size 5 1 v (if (mkAll ([], false) (tabC (absl l))).2 then [] else (mkAll ([], false) (tabC (absl l))).1).length (u8s (if (mkAll ([], false) (tabC (absl l))).2 then [] else (mkAll ([], false) (tabC (absl l))).1)) := by
  have HT := Lib.hid h; have HK := Lib.hid hk
  have hcT := h.cell
  have hlen := h.map.len Try.underlying61 3
  obtain ⟨A, hA⟩ : ∃ A, absl l = A := ⟨_, rfl⟩
  rw [hA]
  have HA := Lib.hid hA
  have hby : ∀ x ∈ (mkAll ([], false) (tabC A)).1, 0 ≤ x ∧ x < 256 := mkAll_mem (fun x hx => by cases hx) (tabC_mem (by rw [← hA]; exact hk) (by rw [← hA]; simpa [absl] using h64))
  obtain ⟨sF, hsF⟩ : ∃ sF, mkAll ([], false) (tabC A) = sF := ⟨_, rfl⟩
  rw [hsF] at hby ⊢
  obtain ⟨R, hRF⟩ : ∃ R, (if sF.2 = true then [] else sF.1) = R := ⟨_, rfl⟩
  rw [hRF]
  have HSF := Lib.hid hsF; have HRF := Lib.hid hRF; have HBY := Lib.hid hby
  clear h hk hA hsF hRF hby
  go_enter Try.func17, Try.ntmps17
  go_wp2_with (first
    | (go_at_call 24; refine (imade _ g m hcT).mono ?_; rintro e w1 ⟨rfl, rfl⟩))
  clear hlen
  have hBl : Hid (g < w.heap.size ∧ m < w.heap.size ∧ ∀ p ∈ l, p.2.b < w.heap.size) := Lib.hid ⟨HT.out.glt, HT.out.map.lt, fun p hp => (HT.out.rows p hp).lt⟩
  obtain ⟨B, hB⟩ : ∃ B, w.heap.size = B := ⟨_, rfl⟩
  have HB := Lib.hid hB
  rw [hB] at hBl
  clear hB
  go_region_held3 (fun w' => w'.cell? ⟨g, 0, none⟩ = some (.map (some m))) (first | exact hcT | exact hT1.out.cell)
    (first
      | (go_at_call 33; refine (xMNew _).mono ?_; rintro e w1 ⟨gm, TS, rfl, hM0, hTS, hF0⟩; have HF : Hid (Fr (fun _ => False) w w1) := Lib.hid ((Fr.refl _ w).drew.trans hF0); have hTS : Hid (∀ b, TS b → B ≤ b) := Lib.hid (by rw [← HB.out]; exact hTS); have hM := Lib.hid hM0; have hT1 := Lib.hid (HT.out.fr HF.out (fun h => h) (fun h => h) (fun _ _ h => h)); have hlen := hT1.out.map.len Try.underlying61 3; clear hM0 hF0)
      | (go_at_call 34; refine (cMNum _ _ _ _ _ _ hM.out ⟨by omega, by omega⟩).mono ?_; clear hlen; rintro e w2 ⟨rfl, TS1, hM1, hS1⟩; have hT1 := Lib.hid (hT1.out.below' hBl.out hS1.1 hTS.out); have hTS' := Lib.hid (hS1.low hTS.out (by rw [← HB.out]; exact HF.out.size)); have HF := Lib.hid (((HF.out.mono (S' := TS) (fun _ _ h => h.elim)).trans hS1.1).mono (S' := fun b => B ≤ b) (fun b _ e => hTS.out b e)); have hTS := hTS'; clear hTS'; have hM := Lib.hid hM1; clear hM1 hS1))
  obtain ⟨s0, hs0⟩ : ∃ s0, mkAll ([], false) [numB l.length] = s0 := ⟨_, rfl⟩
  have hM : Hid (MK w2 gm TS1 s0.1 s0.2) := Lib.hid (by rw [← hs0]; exact hM.out)
  have HS0 := Lib.hid hs0
  have hcT := hT1.out.cell
  have hord := Lib.hid (iOrderC w2 m Cl.enc l hT1.out.map (by omega))
  clear hs0
  go_wp2_with (go_at_call 35; refine hord.out.mono ?_; rintro e w1 ⟨v, rfl, hown, hb⟩; obtain ⟨a, c, rfl⟩ := row_slice hown)
  have hAl : A.length = l.length := by rw [← HA.out]; simp [absl]
  have hAg : ∀ (k : Nat) (p : Int × Cl), l[k]? = some p → A[k]? = some (p.1, (p.2.mark, p.2.rows)) := fun k p hp => by rw [← HA.out]; simp [absl, hp]
  have HAL := Lib.hid hAl; have HAG := Lib.hid hAg; have HO := Lib.hid hown; have HB1 := Lib.hid hb
  have hM1 := Lib.hid (hM.out.fr (Fr.below (S := fun _ => False) hb) (fun _ _ h => h))
  have hT2 := Lib.hid (hT1.out.fr (Fr.below (S := fun _ => False) hb) (fun h => h) (fun h => h) (fun _ _ h => h))
  have hFw := Lib.hid (HF.out.trans' (Fr.below (S := fun _ => False) hb) (fun b _ e => e.elim))
  have hN1 : Hid (∀ b, w2.heap.size ≤ b → ¬ TS1 b) := Lib.hid (fun b hb e => by have := hM.out.lt b e; omega)
  clear hord hown hb hcT hAl hAg
  go_loopw [27] (fun i wr => ∃ (k : Nat) (TS2 : Nat → Prop), k ≤ l.length ∧ i = .int .i64 k ∧ MK wr gm TS2 (mkAll s0 ((A.take k).flatMap cliC)).1 (mkAll s0 ((A.take k).flatMap cliC)).2 ∧ Stp TS1 w1 wr TS2) (fun i _ => l.length - (intOf i).toNat)
  case atStart => exact ⟨0, TS1, Nat.zero_le _, rfl, hM1.out, Stp.refl (Fr.refl _ _)⟩
  case round =>
    obtain ⟨k, TS2, hk, rfl, hMr, hsr⟩ := hrel
    by_cases hlt : k < l.length
    · obtain ⟨p, hp⟩ : ∃ p, l[k]? = some p := ⟨l[k], List.getElem?_eq_getElem hlt⟩
      have hmem : p ∈ l := List.mem_of_getElem? hp
      obtain ⟨g', rfl, hg1, hg2⟩ := row_addr HO.out (by omega)
      have hTr := hT2.out.below' hBl.out hsr.1 hTS.out
      have hgr := hTr.cell
      have hownr := hsr.1.row HO.out (fun b e => by obtain rfl : g' = b := (by simpa [Value.ownBlock] using e); exact hN1.out _ hg1)
      have hcx : wr.cell? ⟨g', k, none⟩ = some (.int .i64 p.1) := by
        have := hownr.cellAt (g := g') (j := k) (by simpa using hlt)
        rw [this]; simp [hp]
      have hlk : (Instr.lookup 61 (.map (some m)) (.int .i64 p.1) false).run Try.prog wr = .ok p.2.enc wr := by
        have := hTr.map.look idK Try.underlying61 (zeroCl wr) ((hTr.map.ok idK).1 p hmem)
        rw [getS_of (v := p.2) (mp_nd hTr.map) hmem] at this
        exact this
      have hlk2 : (Instr.lookup 61 (.map (some m)) (.int .i64 p.1) false).run Try.prog wr = .ok (.agg #[.int .i64 p.2.mark, .map (some p.2.b)]) wr := hlk
      have HM := Lib.hid hmem; have HP := Lib.hid hp; have hMK := Lib.hid hMr; have HSR := Lib.hid hsr; have HTr := Lib.hid hTr
      clear hlk hmem hp hMr hsr hTr hownr
      go_wp2_with fail
      have hPK0 : PkI wr TS2 B wr.heap.size (.cells #[.int .i64 p.2.mark, .map (some p.2.b)] 68) gm TS2 (wr.alloc (.cells #[.int .i64 p.2.mark, .map (some p.2.b)] 68)) (mkAll s0 ((A.take k).flatMap cliC)) :=
        ⟨hMK.out.fr ((Fr.refl (fun _ => False) _).alloc _) (fun _ _ h => h), Stp.refl ((Fr.refl _ _).alloc _), heap_new _ _, fun e => by have := hMK.out.lt _ e; omega, HSR.out.low hTS.out (by have := HB.out; have := hFw.out.size; omega)⟩
      have hRW : Mp Try.prog (wr.alloc (.cells #[.int .i64 p.2.mark, .map (some p.2.b)] 68)) 3 ktI RowV.enc p.2.b p.2.rows := (HTr.out.rows p HM.out).alloc _
      have hBW : B ≤ wr.heap.size := by have := HB.out; have := hFw.out.size; have := HSR.out.1.size; omega
      obtain ⟨rb, hrb⟩ : ∃ rb, wr.heap.size = rb := ⟨_, rfl⟩
      rw [hrb] at hPK0 hBW ⊢
      obtain ⟨Wa, hWa⟩ : ∃ Wa, wr.alloc (.cells #[.int .i64 p.2.mark, .map (some p.2.b)] 68) = Wa := ⟨_, rfl⟩
      rw [hWa] at hPK0 hRW ⊢
      obtain ⟨s1, hs1⟩ : ∃ s1, mkAll s0 ((A.take k).flatMap cliC) = s1 := ⟨_, rfl⟩
      have hS1 := Lib.hid hs1
      rw [hs1] at hPK0
      clear hs1
      have hRB := Lib.hid hrb; have hBW := Lib.hid hBW
      have hPK := Lib.hid hPK0.drew
      have hR := Lib.hid hRW.drew
      have hmp : Hid (A[k]? = some (p.1, (p.2.mark, p.2.rows))) := Lib.hid (HAG.out k p HP.out)
      have hmA : (p.1, (p.2.mark, p.2.rows)) ∈ absl l := by rw [HA.out]; exact List.mem_of_getElem? hmp.out
      have hk1 := Lib.hid (HK.out.keys _ hmA)
      have hk2 := Lib.hid (HK.out.marks _ hmA)
      have hk3 := HK.out.lens _ hmA
      have hk4 := Lib.hid (HK.out.rows _ hmA)
      have hk5 := Lib.hid (HK.out.nums _ hmA)
      dsimp only at hk3
      have o1 : Hid (okI p.1) := Lib.hid (by have := hk1.out; unfold isCl at this; unfold okI; simp at this; omega)
      have o2 : Hid (okI p.2.mark) := Lib.hid (by have := hk2.out; unfold okI; dsimp only at this; omega)
      have o3 : Hid (okI (p.2.rows.length : Int)) := Lib.hid (by unfold okI; omega)
      have hnB : Hid (p.2.b < B) := Lib.hid (hBl.out.2.2 p HM.out)
      have p0 := cell_obj hPK0.box 0 (.int .i64 p.2.mark) rfl
      have p1 := cell_obj hPK0.box 1 (.map (some p.2.b)) rfl
      have hlen := hR.out.len Try.underlying66 3
      clear hPK0 hRW hrb hWa hmA hcx hlk2 hgr
      go_region_held3 (fun w' => w'.cell? ⟨rb, 0, none⟩ = some (.int .i64 p.2.mark) ∧ w'.cell? ⟨rb, 1, none⟩ = some (.map (some p.2.b))) (first | exact ⟨p0, p1⟩ | exact ⟨cell_obj hPK.out.box 0 (.int .i64 p.2.mark) rfl, cell_obj hPK.out.box 1 (.map (some p.2.b)) rfl⟩)
        (first | (go_at_call 34; refine (cMNum _ gm _ _ _ _ hPK.out.mkr (by first | exact o1.out | exact o2.out | exact o3.out)).mono ?_; rintro e w3 ⟨rfl, TS3, hMx, hsx⟩; have hR := Lib.hid (hsx.1.mp hR.out (fun e => by have := hPK.out.low _ e; have := hnB.out; omega)); have hPK := Lib.hid (hPK.out.num hMx hsx (Nat.le_trans hBW.out (by rw [← hRB.out]; exact hPK.out.size))); have hlen := hR.out.len Try.underlying66 3; clear hMx hsx))
      have hst : mkP (mkP (mkP s1 (numB p.1)) (numB p.2.mark)) (numB p.2.rows.length) = mkAll s1 [numB p.1, numB p.2.mark, numB p.2.rows.length] := rfl
      obtain ⟨s2, hs2⟩ : ∃ s2, mkP (mkP (mkP s1 (numB p.1)) (numB p.2.mark)) (numB p.2.rows.length) = s2 := ⟨_, rfl⟩
      have hPK : Hid (PkI wr TS2 B rb (.cells #[.int .i64 p.2.mark, .map (some p.2.b)] 68) gm TS3 w3 s2) := Lib.hid (by rw [← hs2]; exact hPK.out)
      have hS2 : Hid (mkAll s1 [numB p.1, numB p.2.mark, numB p.2.rows.length] = s2) := Lib.hid (hst ▸ hs2)
      have p1 := cell_obj hPK.out.box 1 (.map (some p.2.b)) rfl
      have hord := Lib.hid (iOrderR w3 p.2.b RowV.enc p.2.rows hR.out (by omega))
      clear hs2 hst p0
      go_wp2_with (go_at_call 36; refine hord.out.mono ?_; rintro e w4 ⟨v, rfl, hown4, hb4⟩; obtain ⟨a4, c4, rfl⟩ := row_slice hown4)
      have hPK4 := hPK.out
      have HO4 := Lib.hid hown4; have HB4 := Lib.hid hb4
      have hM4 := Lib.hid (hPK4.mkr.fr (Fr.below (S := fun _ => False) hb4) (fun _ _ h => h))
      have hR4 := Lib.hid ((Fr.below (S := fun _ => False) hb4).mp hR.out (fun h => h))
      have hb4x := Lib.hid ((Fr.below (S := fun _ => False) hb4).at_ hPK4.box (fun h => h))
      have hS4 := Lib.hid (hPK4.stp.trans (Stp.refl (Fr.below hb4)))
      have hN4 : Hid (∀ b, w3.heap.size ≤ b → ¬ TS3 b) := Lib.hid (fun b hb e => by have := hPK4.mkr.lt b e; omega)
      have hL4 : Hid (∀ b, TS3 b → B ≤ b) := Lib.hid hPK4.low
      have hNr : Hid (¬ TS3 rb) := Lib.hid hPK4.nb
      clear hPK4 hown4 hb4 hord hlen p1
      go_loopw [51] (fun i wr => ∃ (j : Nat) (TS4 : Nat → Prop), j ≤ p.2.rows.length ∧ i = .int .i64 j ∧ MK wr gm TS4 (mkAll s2 (rowsC (p.2.rows.take j))).1 (mkAll s2 (rowsC (p.2.rows.take j))).2 ∧ Stp TS3 w4 wr TS4) (fun i _ => p.2.rows.length - (intOf i).toNat)
      case atStart => exact ⟨0, TS3, Nat.zero_le _, rfl, hM4.out, Stp.refl (Fr.refl _ _)⟩
      case round =>
        obtain ⟨j, TS4, hj, rfl, hMj, hsj⟩ := hrel
        by_cases hlt2 : j < p.2.rows.length
        · obtain ⟨q, hq⟩ : ∃ q, p.2.rows[j]? = some q := ⟨p.2.rows[j], List.getElem?_eq_getElem hlt2⟩
          have hqm : q ∈ p.2.rows := List.mem_of_getElem? hq
          obtain ⟨g2, rfl, hg3, hg4⟩ := row_addr HO4.out (by omega)
          have hownq := hsj.1.row HO4.out (fun b e => by obtain rfl : g2 = b := (by simpa [Value.ownBlock] using e); exact hN4.out _ hg3)
          have hcx : wr.cell? ⟨g2, j, none⟩ = some (.int .i64 q.1) := by
            have := hownq.cellAt (g := g2) (j := j) (by simpa using hlt2)
            rw [this]; simp [hq]
          have hRq := hsj.1.mp hR4.out (fun e => by have := hL4.out _ e; have := hnB.out; omega)
          have p1 := cell_obj (hsj.1.at_ hb4x.out hNr.out) 1 (.map (some p.2.b)) rfl
          have hlk2 : (Instr.lookup 66 (.map (some p.2.b)) (.int .i64 q.1) false).run Try.prog wr = .ok (.agg #[.int .u64 q.2.mix, .bool q.2.done, .int .i64 q.2.a.c, .int .i64 q.2.a.n, .int .i64 q.2.a.code, .int .i64 q.2.a.k]) wr := by
            have := hRq.look idK Try.underlying66 (zeroRow wr) ((hRq.ok idK).1 q hqm)
            rw [getS_of (v := q.2) (mp_nd hRq) hqm] at this
            exact this
          have oq : Hid (okI q.1) := Lib.hid (by have := hk5.out q hqm; unfold isNu at this; unfold okI; simp at this; omega)
          have hput := Lib.hid (iPut wr gm TS4 _ q.1 q.2 hMj oq.out (hk4.out q hqm).1)
          have hse : mkAll (mkAll s2 (rowsC (p.2.rows.take j))) (rowCs q.1 q.2) = mkAll s2 (rowsC (p.2.rows.take (j + 1))) := by
            rw [← mkAll_app, List.take_add_one, hq]; simp [rowsC]
          rw [hse] at hput
          have HSJ := Lib.hid hsj
          clear hownq hRq hMj hsj hqm hq hse
          go_wp2_with (go_at_call 37; refine hput.out.mono ?_; rintro e w5 ⟨⟨v5, rfl⟩, TS5, hM5, hS5⟩)
          go_roundw
          case rel => exact ⟨j + 1, TS5, by omega, by go_num, hM5, HSJ.out.trans hS5⟩
          case measure => simp [intOf]; omega
        · have : j = p.2.rows.length := by omega
          subst this
          go_wp2_with fail
          go_roundw
          case rel =>
            refine ⟨k + 1, TS4, by omega, by go_num, ?_, HSR.out.trans (hS4.out.trans hsj)⟩
            have e : mkAll s0 ((A.take (k + 1)).flatMap cliC) = mkAll s2 (rowsC (p.2.rows.take p.2.rows.length)) := by
              rw [List.take_add_one, hmp.out, List.flatMap_append, mkAll_app, hS1.out, ← hS2.out, ← mkAll_app]
              simp [cliC]
            rw [e]; exact hMj
          case measure => simp [intOf]; omega
    · have : k = l.length := by omega
      subst this
      have hse : mkAll s0 ((A.take l.length).flatMap cliC) = mkAll ([], false) (tabC A) := by
        rw [← HAL.out, List.take_length, ← HS0.out, ← mkAll_app, ← HAL.out]; rfl
      rw [hse, HSF.out] at hMr
      clear hse
      have hdn := cMDone wr gm TS2 sF.1 sF.2 hMr HBY.out
      rw [HRF.out] at hdn
      generalize (if sF.2 = true then (3 : Int) else 0) = ec at hdn
      have HDN := Lib.hid hdn
      clear hdn
      go_wp2_with (go_at_call 38; refine HDN.out.mono ?_; rintro e w5 ⟨hb5, v5, rfl, hown5⟩)
      go_ret
      have h0 := HB.out
      have h1 : Fr (fun b => B ≤ b) w w5 := (hFw.out.trans' hsr.1 (fun b _ e => hTS.out b e)).trans' (Fr.below (S := fun _ => False) hb5) (fun b _ e => e.elim)
      exact ⟨h1.toBelow (fun b e => by omega) (Nat.le_refl _), v5, rfl, ownsRow_base_a hown5 (by have := hFw.out.size; have := hsr.1.size; omega)⟩
end Go.Proofs.Ytakjiicnbocjeaa
namespace Go.Proofs.Ytakjiicnbocjeaa
open Go.RowKit Go.Maps
section
variable {ν : Type}
/-- The keys rise. -/
def Rise (l : List (Int × ν)) : Prop := l.Pairwise fun p q => p.1 < q.1
theorem rise_of_lt {l : List (Int × ν)} (h : l.Pairwise (fun p q => ktI.lt p.1 q.1 = true)) : Rise l := h.imp fun {p q} e => by have e : decide (p.1 < q.1) = true := e; simpa using e
theorem mp_rise {w : World} {b : Nat} {enc : ν → Value} {l : List (Int × ν)} (h : Mp Try.prog w 3 ktI enc b l) : Rise l := rise_of_lt (h.ok idK).2
theorem getS_app {L M : List (Int × ν)} {n : Int} (h : ∀ p ∈ L, p.1 < n) : getS (L ++ M) n = getS M n := by
  induction L with
  | nil => rfl
  | cons p r ih =>
    have := h p (by simp)
    show (if p.1 = n then _ else _) = _
    rw [if_neg (by omega)]
    exact ih fun q hq => h q (by simp [hq])
theorem getS_behind {M : List (Int × ν)} {n : Int} (h : ∀ p ∈ M, n < p.1) : getS M n = none := getS_none.2 fun p hp e => by have := h p hp; omega
theorem insS_app {L M : List (Int × ν)} {n : Int} {v : ν} (h1 : ∀ p ∈ L, p.1 < n) (h2 : ∀ p ∈ M, n < p.1) : insS ktI.lt (n, v) (L ++ M) = L ++ (n, v) :: M := by
  induction L with
  | nil => cases M with
    | nil => rfl
    | cons q s =>
      have : ktI.lt n q.1 = true := by show decide (n < q.1) = true; simpa using h2 q (by simp)
      show (if ktI.lt n q.1 = true then _ else _) = _
      rw [if_pos this]; rfl
  | cons p r ih =>
    have : ¬ ktI.lt n p.1 = true := by show ¬ decide (n < p.1) = true; have := h1 p (by simp); simp; omega
    show (if ktI.lt n p.1 = true then _ else _) = _
    rw [if_neg this]
    show p :: insS ktI.lt (n, v) (r ++ M) = p :: (r ++ (n, v) :: M)
    rw [ih fun q hq => h1 q (by simp [hq])]
theorem delS_no {l : List (Int × ν)} {n : Int} (h : ∀ p ∈ l, p.1 ≠ n) : delS l n = l := by
  unfold delS
  rw [List.filter_eq_self]
  intro p hp
  simpa using h p hp
theorem putS_app {L M : List (Int × ν)} {n : Int} {v : ν} (h1 : ∀ p ∈ L, p.1 < n) (h2 : ∀ p ∈ M, n < p.1) : putS ktI.lt (L ++ M) n v = L ++ (n, v) :: M := by
  unfold putS
  rw [delS_no (fun p hp => by rcases List.mem_append.1 hp with hp | hp; (have := h1 p hp; omega); (have := h2 p hp; omega)), insS_app h1 h2]
theorem putS_over {L M : List (Int × ν)} {n : Int} {u v : ν} (h1 : ∀ p ∈ L, p.1 < n) (h2 : ∀ p ∈ M, n < p.1) : putS ktI.lt (L ++ (n, u) :: M) n v = L ++ (n, v) :: M := by
  unfold putS
  have : delS (L ++ (n, u) :: M) n = L ++ M := by
    unfold delS
    rw [List.filter_append, List.filter_cons_of_neg (by simp)]
    have e1 := delS_no (l := L) (n := n) (fun p hp => by have := h1 p hp; omega)
    have e2 := delS_no (l := M) (n := n) (fun p hp => by have := h2 p hp; omega)
    unfold delS at e1 e2
    rw [e1, e2]
  rw [this, insS_app h1 h2]
theorem rise_at {l : List (Int × ν)} {k : Nat} {p : Int × ν} (h : Rise l) (hp : l[k]? = some p) : (∀ q ∈ l.take k, q.1 < p.1) ∧ (∀ q ∈ l.drop (k + 1), p.1 < q.1) := by
  have hk : k < l.length := (List.getElem?_eq_some_iff.1 hp).1
  have e : l = l.take k ++ p :: l.drop (k + 1) := by
    rw [← (List.getElem?_eq_some_iff.1 hp).2, ← List.drop_eq_getElem_cons hk, List.take_append_drop]
  unfold Rise at h
  rw [e, List.pairwise_append] at h
  refine ⟨fun q hq => h.2.2 q hq p (by simp), fun q hq => (List.pairwise_cons.1 h.2.1).1 q hq⟩
theorem rise_split {l : List (Int × ν)} {k : Nat} {p : Int × ν} (hp : l[k]? = some p) : l = l.take k ++ p :: l.drop (k + 1) := by
  have hk : k < l.length := (List.getElem?_eq_some_iff.1 hp).1
  rw [← (List.getElem?_eq_some_iff.1 hp).2, ← List.drop_eq_getElem_cons hk, List.take_append_drop]
/-- Where number n is found, or would go: k. -/
theorem rise_get {l : List (Int × ν)} {k : Nat} {n : Int} (h : Rise l) (hlo : ∀ q ∈ l.take k, q.1 < n) : (∀ r, l[k]? = some (n, r) → getS l n = some r) ∧ ((∀ p, l[k]? = some p → n < p.1) → getS l n = none ∧ ∀ v, putS ktI.lt l n v = l.take k ++ (n, v) :: l.drop k) := by
  refine ⟨fun r hr => ?_, fun hhi => ?_⟩
  · rw [rise_split hr, getS_app hlo]
    simp [getS]
  · have hb : ∀ q ∈ l.drop k, n < q.1 := by
      intro q hq
      cases e : l[k]? with
      | none =>
        rw [List.getElem?_eq_none_iff] at e
        rw [List.drop_eq_nil_of_le e] at hq; cases hq
      | some p =>
        have hk : k < l.length := (List.getElem?_eq_some_iff.1 e).1
        rw [List.drop_eq_getElem_cons hk, (List.getElem?_eq_some_iff.1 e).2] at hq
        have := hhi p e
        rcases List.mem_cons.1 hq with rfl | hq
        · exact this
        · have := (rise_at h e).2 q hq; omega
    have e := List.take_append_drop k l
    refine ⟨by rw [← e, getS_app hlo, getS_behind hb], fun v => ?_⟩
    have := putS_app (v := v) hlo hb
    rw [e] at this
    exact this
theorem rise_put_at {l : List (Int × ν)} {k : Nat} {n : Int} {u v : ν} (h : Rise l) (hp : l[k]? = some (n, u)) : putS ktI.lt l n v = l.take k ++ (n, v) :: l.drop (k + 1) := by
  obtain ⟨h1, h2⟩ := rise_at h hp
  have := putS_over (u := u) (v := v) h1 h2
  rw [← rise_split hp] at this
  exact this
theorem rise_step {l : List (Int × ν)} {k : Nat} {n : Int} {p : Int × ν} (hlo : ∀ q ∈ l.take k, q.1 < n) (hp : l[k]? = some p) (hn : p.1 < n) : ∀ q ∈ l.take (k + 1), q.1 < n := by
  intro q hq
  rw [List.take_add_one, hp] at hq
  rcases List.mem_append.1 hq with hq | hq
  · exact hlo q hq
  · simp at hq; subst hq; exact hn
/-- Keys below a bound. -/
theorem filter_succ {l : List (Int × ν)} (h : Rise l) (c : Int) : (l.filter fun p => decide (p.1 < c + 1)) = (l.filter fun p => decide (p.1 < c)) ++ (match getS l c with | some v => [(c, v)] | none => []) := by
  induction l with
  | nil => rfl
  | cons p r ih =>
    obtain ⟨h1, h2⟩ := List.pairwise_cons.1 h
    have ih := ih h2
    rcases (by omega : p.1 < c ∨ p.1 = c ∨ c < p.1) with hc | hc | hc
    · rw [List.filter_cons_of_pos (by simp; omega), List.filter_cons_of_pos (by simpa using hc), ih]
      have : getS (p :: r) c = getS r c := by show (if p.1 = c then _ else _) = _; rw [if_neg (by omega)]
      rw [this]; rfl
    · have hr : ∀ q ∈ r, c < q.1 := fun q hq => by have := h1 q hq; omega
      have e1 : (r.filter fun q => decide (q.1 < c + 1)) = [] := by rw [List.filter_eq_nil_iff]; intro q hq; have := hr q hq; simp; omega
      have e2 : (r.filter fun q => decide (q.1 < c)) = [] := by rw [List.filter_eq_nil_iff]; intro q hq; have := hr q hq; simp; omega
      rw [List.filter_cons_of_pos (by simp; omega), List.filter_cons_of_neg (by simp; omega), e1, e2]
      have : getS (p :: r) c = some p.2 := by show (if p.1 = c then _ else _) = _; rw [if_pos hc]
      rw [this, ← hc]; rfl
    · have hr : ∀ q ∈ r, c < q.1 := fun q hq => by have := h1 q hq; omega
      have e1 : (r.filter fun q => decide (q.1 < c + 1)) = [] := by rw [List.filter_eq_nil_iff]; intro q hq; have := hr q hq; simp; omega
      have e2 : (r.filter fun q => decide (q.1 < c)) = [] := by rw [List.filter_eq_nil_iff]; intro q hq; have := hr q hq; simp; omega
      rw [List.filter_cons_of_neg (by simp; omega), List.filter_cons_of_neg (by simp; omega), e1, e2]
      have : getS (p :: r) c = none := getS_behind (fun q hq => by rcases List.mem_cons.1 hq with rfl | hq; exact hc; exact hr q hq)
      rw [this]; rfl
theorem filter_all {l : List (Int × ν)} {c : Int} (h : ∀ p ∈ l, p.1 < c) : (l.filter fun p => decide (p.1 < c)) = l := by
  rw [List.filter_eq_self]; intro p hp; simpa using h p hp
theorem rise_filter {l : List (Int × ν)} (f : Int × ν → Bool) (h : Rise l) : Rise (l.filter f) := List.Pairwise.filter _ h
end
end Go.Proofs.Ytakjiicnbocjeaa
namespace Go.Proofs.Ytakjiicnbocjeaa
open Go.RowKit
theorem row_sl {w : World} {base : Nat} {e : TypeId} {size n : Nat} {v : Value} {xs : List Value} (h : w.ownsRow base e size v n xs) : ∃ a c, v = .slice a n c := by
  rcases h.2 with ⟨rfl, rfl⟩ | ⟨g, c, cur, rfl, _⟩
  · exact ⟨_, _, rfl⟩
  · exact ⟨_, _, rfl⟩
theorem own_base {w : World} {base base' : Nat} {e : TypeId} {size n : Nat} {v : Value} {xs : List Value} (h : w.ownsRow base e size v n xs) (hb : base' ≤ base) : w.ownsRow base' e size v n xs := by
  refine ⟨h.1, ?_⟩
  rcases h.2 with h | ⟨g, c, cur, h1, h2, r⟩
  · exact .inl h
  · exact .inr ⟨g, c, cur, h1, Nat.le_trans hb h2, r⟩
/-- A slice's cells: m elements of that size, at A. -/
def Rd (w : World) (size : Nat) (A : Option Addr) (m : Nat) (xs : List Value) : Prop := xs.length = m * size ∧ (0 < m → ∃ ad, A = some ad ∧ ∀ (j : Nat) (u : Value), xs[j]? = some u → w.cell? (ad.add j) = some u)
section
variable {w w' : World} {size m : Nat} {A : Option Addr} {xs : List Value}
theorem Rd.nil (w : World) (size : Nat) (A : Option Addr) : Rd w size A 0 [] := ⟨by simp, fun h => absurd h (by omega)⟩
theorem add_block (a : Addr) (n : Nat) : (a.add n).block = a.block := by unfold Addr.add; split <;> rfl
theorem add_add' (a : Addr) (i j : Nat) : (a.add i).add j = a.add (i + j) := by
  unfold Addr.add
  by_cases hi : i = 0 <;> by_cases hj : j = 0 <;> simp [hi, hj, Nat.add_assoc]
theorem Rd.fr {S : Nat → Prop} (h : Rd w size A m xs) (hf : Fr S w w') (hS : ∀ ad, A = some ad → ¬ S ad.block) : Rd w' size A m xs :=
  ⟨h.1, fun hm => by
    obtain ⟨ad, e, hc⟩ := h.2 hm
    exact ⟨ad, e, fun j u hu => hf.cell (hc j u hu) (by rw [add_block]; exact hS ad e)⟩⟩
theorem Rd.own {base n c : Nat} {e : TypeId} (h : w.ownsRow base e size (.slice A n c) n xs) : Rd w size A n xs := by
  refine ⟨h.1, fun hn => ?_⟩
  obtain ⟨g, cap, hv, _, _⟩ := h.form hn
  have hA : A = some ⟨g, 0, none⟩ := by injection hv
  subst hA
  exact ⟨_, rfl, h.cells (g := g) rfl⟩
theorem Rd.take {k : Nat} (h : Rd w size A m xs) (hk : k ≤ m) : Rd w size A k (xs.take (k * size)) := by
  have hle : k * size ≤ m * size := Nat.mul_le_mul_right _ hk
  refine ⟨by rw [List.length_take, h.1]; omega, fun hp => ?_⟩
  obtain ⟨ad, e, hc⟩ := h.2 (by omega)
  refine ⟨ad, e, fun j u hu => hc j u ?_⟩
  rw [List.getElem?_take] at hu
  split at hu
  · exact hu
  · cases hu
theorem Rd.drop {k : Nat} (h : Rd w size A m xs) (hk : k ≤ m) : Rd w size (A.map fun x => x.add (k * size)) (m - k) (xs.drop (k * size)) := by
  refine ⟨by rw [List.length_drop, h.1, Nat.sub_mul], fun hn => ?_⟩
  obtain ⟨ad, rfl, hc⟩ := h.2 (by omega)
  exact ⟨_, rfl, fun j u hu => by rw [add_add']; exact hc _ u (by rw [← hu, List.getElem?_drop])⟩
theorem Rd.at_ {k : Nat} {u : Value} (h : Rd w size A m xs) (hm : 0 < m) (hk : xs[k]? = some u) : ∃ ad, A = some ad ∧ w.cell? (ad.add k) = some u := by
  obtain ⟨ad, e, hc⟩ := h.2 hm
  exact ⟨ad, e, hc k u hk⟩
variable {P : Program}
theorem run_append_src (base : Nat) (t ty e : TypeId) (i : TypeInfo) (z : Value) (bytes : Nat) (ht : P.underlying t = some (.slice e)) (hi : P.info? e = some i) (hz : i.zero = some z)
    (hsize : i.size = size) (hby : i.bytes = bytes) (hzs : z.cells.size = size) (hsz : 0 < size) (v : Value) (n : Nat) (ys : List Value) (hown : w.ownsRow base e size v n ys)
    (c : Nat) (hr : Rd w size A m xs) (h1 : ∀ u ∈ xs, u.oneCell' = true) (h63 : n + m ≤ maxLen) (hbytes : (n + m) * bytes ≤ 140737488355328) (hbase : base ≤ w.heap.size) :
    ∃ v' w', (Builtin.append_ #[t, t] ty #[v, .slice A m c]).run P w = .ok v' w' ∧ w'.ownsRow base e size v' (n + m) (ys ++ xs) ∧ w.grownBy w' v.ownBlock ∧ (v'.ownBlock = v.ownBlock ∨ v'.ownBlock = some w.heap.size) := by
  cases A with
  | none =>
    obtain rfl : m = 0 := by
      rcases Nat.eq_zero_or_pos m with h | h
      · exact h
      · obtain ⟨_, h, _⟩ := hr.2 h; cases h
    obtain rfl : xs = [] := List.eq_nil_of_length_eq_zero (by simpa using hr.1)
    refine ⟨v, w, ?_, by simpa using hown, World.grownBy.refl w _, .inl rfl⟩
    rcases hown.2 with ⟨rfl, rfl⟩ | ⟨g, cap, cur, rfl, _, _, hnc, _⟩
    · simp [Builtin.append_, run_underlying ht, sizeOf, typeInfo, hi, Builtin.lenOf, Builtin.firstCells]
    · simp [Builtin.append_, run_underlying ht, sizeOf, typeInfo, hi, Builtin.lenOf, Builtin.firstCells, hnc, storeCells]
  | some ad =>
    have hc : ∀ j u, xs[j]? = some u → w.cell? (ad.add j) = some u := by
      intro j u hu
      rcases Nat.eq_zero_or_pos m with h | h
      · subst h
        obtain rfl : xs = [] := List.eq_nil_of_length_eq_zero (by simpa using hr.1)
        cases hu
      · obtain ⟨ad', e, hc⟩ := hr.2 h
        cases e
        exact hc j u hu
    obtain ⟨v', w', a1, a2, a3, _, a5⟩ := run_append_own_at (P := P) w base t ty e i z size bytes ht hi hz hsize hby hzs hsz v n ys hown ad m c xs hr.1 hc h1 h63 hbytes hbase
    exact ⟨v', w', a1, a2, a3, a5⟩
theorem wpList_append_src {ops : Array Oper} {rest : List Oper} {o : Oper} {a : Act} {Q : Exit → Act → World → Prop} (hgd : o.guard = none) (s x : Operand) (t : TypeId)
    (ho : o.op = .call { callee := .builtin .append, args := #[s, x], argTypes := #[t, t] })
    (base : Nat) (e : TypeId) (i : TypeInfo) (z : Value) (bytes : Nat) (ht : P.underlying t = some (.slice e)) (hi : P.info? e = some i) (hz : i.zero = some z)
    (hsize : i.size = size) (hby : i.bytes = bytes) (hzs : z.cells.size = size) (hsz : 0 < size) (v : Value) (n : Nat) (ys : List Value) (hs : a.eval s = v) (hown : w.ownsRow base e size v n ys)
    (c : Nat) (hx : a.eval x = .slice A m c) (hr : Rd w size A m xs) (h1 : ∀ u ∈ xs, u.oneCell' = true) (h63 : n + m ≤ maxLen) (hbytes : (n + m) * bytes ≤ 140737488355328) (hbase : base ≤ w.heap.size)
    (h : ∀ v' w', w'.ownsRow base e size v' (n + m) (ys ++ xs) → w.grownBy w' v.ownBlock → (v'.ownBlock = v.ownBlock ∨ v'.ownBlock = some w.heap.size) → wpList P ops Q rest (a.put o.dst v') w') : wpList P ops Q (o :: rest) a w := by
  refine wpList_plain hgd fun K hK => ?_
  obtain ⟨v', w', hr, h2, h3, h5⟩ := run_append_src (P := P) base t o.type e i z bytes ht hi hz hsize hby hzs hsz v n ys hown c hr h1 h63 hbytes hbase
  unfold Oper.wp execOp
  simp only [ho, resolve, invoke, builtin, Sem.run_bind, Sem.run_pure, Result.andThen_ok, List.map_toArray, List.map_cons, List.map_nil, hs, hx, hr]
  exact hK _ _ (h v' w' h2 h3 h5)
end
end Go.Proofs.Ytakjiicnbocjeaa
