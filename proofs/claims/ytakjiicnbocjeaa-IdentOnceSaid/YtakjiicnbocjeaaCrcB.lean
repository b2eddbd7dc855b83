/- crc: word, Mix -/
import Derived.Test.YtakjiicnbocjeaaCrcA
import Derived.BigQuiet
namespace Go.Proofs.Ytakjiicnbocjeaa
open Go.RowKit
def wrd (s : S4) (m : Int) : S4 :=
  let r := rnd (rnd { s with d := bits .xor .u64 s.d m })
  { r with a := bits .xor .u64 r.a m }
set_option maxHeartbeats 1000000 in
theorem cWord (w : World) (g : Nat) (s : S4) (m : Int) (hS : w.heap[g]? = some (.cells s.cs 101)) :
    Calls Try.prog 49 #[.pointer (some ⟨g, 0, none⟩), .int .u64 m] w fun e w' => e = .returned (.tuple #[]) ∧ w'.heap[g]? = some (.cells (wrd s m).cs 101) ∧ Fr (fun b => b = g) w w' := by
  obtain ⟨a, b, c, d⟩ := s
  have q3 := cell_obj hS 3 (.int .u64 d) rfl
  have fz := obj_frozen hS 3
  have h1 : (w.setCell ⟨g, 3, none⟩ (.int .u64 (bits .xor .u64 d m))).heap[g]? = some (.cells (S4.cs ⟨a, b, c, bits .xor .u64 d m⟩) 101) := obj_set hS 3 _
  have F1 := (Fr.refl (fun b => b = g) w).setCell (p := ⟨g, 3, none⟩) (fun _ => rfl) (.int .u64 (bits .xor .u64 d m))
  clear hS
  obtain ⟨s', hs'⟩ : ∃ s', wrd ⟨a, b, c, d⟩ m = s' := ⟨_, rfl⟩
  rw [hs']
  have HW := Lib.hid hs'
  clear hs'
  go_enter Try.func49, Try.ntmps49
  go_wp2_with fail
  have HF1 := Lib.hid F1
  generalize w.setCell ⟨g, 3, none⟩ (.int .u64 (bits .xor .u64 d m)) = w1 at *
  clear F1 q3 fz
  refine (cRound w1 g _ h1).mono ?_
  rintro e w2 ⟨rfl, h2, F2⟩
  have HF2 := Lib.hid (HF1.out.trans F2)
  clear h1 F2 HF1
  go_wp2_with fail
  refine (cRound w2 g _ h2).mono ?_
  rintro e w3 ⟨rfl, h3, F3⟩
  have HF3 := Lib.hid (HF2.out.trans F3)
  clear h2 F3 HF2
  unfold wrd at HW
  dsimp only at HW
  generalize rnd (rnd ⟨a, b, c, bits .xor .u64 d m⟩) = s3 at *
  obtain ⟨a', b', c', d'⟩ := s3
  have q0 := cell_obj h3 0 (.int .u64 a') rfl
  have fz := obj_frozen h3 0
  have H4 := Lib.hid (obj_set h3 0 (.int .u64 (bits .xor .u64 a' m)))
  have HF4 := Lib.hid (HF3.out.setCell (p := ⟨g, 0, none⟩) (fun _ => rfl) (.int .u64 (bits .xor .u64 a' m)))
  clear h3 HF3
  go_wp2_with fail
  go_end0
  exact ⟨rfl, HW.out ▸ H4.out, HF4.out⟩
/-- Bytes. -/
def Bs (w : World) (v : Value) (bs : List Int) : Prop := bs.length ≤ 9223372036854775807 ∧ ∃ (a : Option Addr) (c : Nat), v = .slice a bs.length c ∧ ∀ (i : Nat) (x : Int), bs[i]? = some x → 0 ≤ x ∧ x < 256 ∧ ∃ ad, a = some ad ∧ w.cell? (ad.add i) = some (.int .u8 x)
theorem Bs.nil (w : World) : Bs w (.slice none 0 0) [] := ⟨by simp, none, 0, rfl, fun i x h => by simp at h⟩
theorem Bs.fr {S : Nat → Prop} {w w' : World} {v : Value} {bs : List Int} (h : Bs w v bs) (hf : Fr S w w') (hS : ∀ b, S b → w.heap.size ≤ b) : Bs w' v bs := by
  obtain ⟨h0, a, c, e, h1⟩ := h
  refine ⟨h0, a, c, e, fun i x hx => ?_⟩
  obtain ⟨b1, b2, ad, e, hc⟩ := h1 i x hx
  exact ⟨b1, b2, ad, e, hf.cell hc (fun hs => by have := hS _ hs; have := World.block_lt_of_cell? w _ hc; omega)⟩
theorem wrapU {x : Int} (h0 : 0 ≤ x) (h1 : x < 18446744073709551616) : IntKind.u64.wrap x = x := by
  show x % 18446744073709551616 = x
  omega
def rndN : Nat → S4 → S4
  | 0, s => s
  | k + 1, s => rnd (rndN k s)
def mixStep (st : S4 × Int) (i : Nat) (c : Int) : S4 × Int :=
  let m := bits .or .u64 st.2 (IntKind.u64.wrap (c * 2 ^ (8 * (i % 8))))
  if i % 8 = 7 then (wrd st.1 m, 0) else (st.1, m)
def mixFrom (st : S4 × Int) : Nat → List Int → S4 × Int
  | _, [] => st
  | i, c :: r => mixFrom (mixStep st i c) (i + 1) r
def mixS (seal_ : Int) : S4 := ⟨bits .xor .u64 seal_ 8317987319222330741, 368457802846855779, bits .xor .u64 seal_ 7816392313619706465, 1519701440043968637⟩
def mixEnd (st : S4 × Int) (n : Nat) : Int :=
  let s := wrd st.1 (bits .or .u64 st.2 (IntKind.u64.wrap ((n : Int) * 2 ^ 56)))
  let t := rnd (rnd (rnd (rnd { s with c := bits .xor .u64 s.c 255 })))
  bits .xor .u64 (bits .xor .u64 (bits .xor .u64 t.a t.b) t.c) t.d
def mixF (seal_ : Int) (bs : List Int) : Int := mixEnd (mixFrom (mixS seal_, 0) 0 bs) bs.length
theorem mixFrom_snoc {st : S4 × Int} {l : List Int} {c : Int} : ∀ {i : Nat}, mixFrom st i (l ++ [c]) = mixStep (mixFrom st i l) (i + l.length) c := by
  induction l generalizing st with
  | nil => intro i; rfl
  | cons x r ih =>
    intro i
    simp only [List.cons_append, mixFrom, List.length_cons]
    rw [ih, show i + 1 + r.length = i + (r.length + 1) from by omega]
set_option maxRecDepth 100000 in
set_option maxHeartbeats 2000000 in
theorem cMix (w : World) (sl : Int) (v : Value) (bs : List Int) (h : Bs w v bs) :
    Calls Try.prog 28 #[.int .u64 sl, v] w fun e w' => e = .returned (.int .u64 (mixF sl bs)) ∧ Below w.heap.size w w' := by
  obtain ⟨hlen, a, c, rfl, -⟩ := id h
  obtain ⟨n, hn⟩ : ∃ n : Nat, bs.length = n := ⟨_, rfl⟩
  unfold mixF
  rw [hn] at hlen ⊢
  have HN := Lib.hid hn; have HB := Lib.hid h
  clear hn h
  obtain ⟨y, hy⟩ : ∃ y, mixEnd (mixFrom (mixS sl, 0) 0 bs) n = y := ⟨_, rfl⟩
  rw [hy]
  have HY := Lib.hid hy
  clear hy
  have h0 := heap_new w (.cells (mixS sl).cs 101)
  have F0 := (Fr.refl (fun b => b = w.heap.size) w).alloc (.cells (mixS sl).cs 101)
  have HH0 := Lib.hid h0; have HF0 := Lib.hid F0
  clear h0 F0
  unfold mixS S4.cs at HH0 HF0
  dsimp only at HH0 HF0
  go_enter Try.func28, Try.ntmps28
  go_wp2_with fail
  obtain ⟨g, hg⟩ : ∃ g : Nat, w.heap.size = g := ⟨_, rfl⟩
  rw [hg] at HH0 HF0 ⊢
  have HG := Lib.hid hg
  generalize w.alloc (.cells #[.int .u64 (bits .xor .u64 sl 8317987319222330741), .int .u64 368457802846855779, .int .u64 (bits .xor .u64 sl 7816392313619706465), .int .u64 1519701440043968637] 101) = w1 at *
  clear hg
  go_loopw [6, 17] (fun m i wr => ∃ k : Nat, (k : Int) ≤ n ∧ i = .int .i64 k ∧ m = .int .u64 (mixFrom (mixS sl, 0) 0 (bs.take k)).2 ∧ wr.heap[g]? = some (.cells (mixFrom (mixS sl, 0) 0 (bs.take k)).1.cs 101) ∧ Fr (fun b => b = g) w wr) (fun _ i _ => n - (intOf i).toNat)
  case atStart => exact ⟨0, by omega, rfl, rfl, HH0.out, HF0.out⟩
  case round =>
    obtain ⟨k, hk, rfl, rfl, hS, hF⟩ := hrel
    clear HH0 HF0
    by_cases hkn : (k : Int) < n
    · obtain ⟨x, hx⟩ : ∃ x, bs[k]? = some x := ⟨bs[k]'(by have := HN.out; omega), List.getElem?_eq_getElem _⟩
      have htk : bs.take (k + 1) = bs.take k ++ [x] := by rw [List.take_add_one, hx]; rfl
      have hst := mixFrom_snoc (st := (mixS sl, 0)) (l := bs.take k) (c := x) (i := 0)
      rw [← htk, List.length_take, Nat.min_eq_left (by have := HN.out; omega), Nat.zero_add] at hst
      have HST := Lib.hid hst
      clear hst htk
      obtain ⟨h0, h1, ad, rfl, hcx⟩ : 0 ≤ x ∧ x < 256 ∧ ∃ ad, a = some ad ∧ wr.cell? (ad.add k) = some (.int .u8 x) := by
        obtain ⟨_, a', c', e, hb⟩ := HB.out.fr hF (fun b e => by have := HG.out; omega)
        injection e with e1
        obtain ⟨b1, b2, ad, e2, hc⟩ := hb k x hx
        exact ⟨b1, b2, ad, e1.trans e2, hc⟩
      generalize mixFrom (mixS sl, 0) 0 (bs.take k) = st at *
      obtain ⟨s1, m1⟩ := st
      have HF := Lib.hid hF; have HS := Lib.hid hS
      clear hF hS hx
      have ht : (k : Int).tmod 8 = ((k % 8 : Nat) : Int) := by rw [Int.tmod_eq_emod_of_nonneg (by omega)]; omega
      have hr : k % 8 < 8 := Nat.mod_lt _ (by omega)
      obtain ⟨r, hr'⟩ : ∃ r : Nat, k % 8 = r := ⟨_, rfl⟩
      rw [hr'] at ht hr
      have HR := Lib.hid hr'
      clear hr'
      by_cases h7 : r = 7
      · subst h7
        go_wp2_with fail
        refine (cWord wr g s1 _ HS.out).mono ?_
        rintro e w2 ⟨rfl, h2, F2⟩
        have H2 := Lib.hid h2
        have HF2 := Lib.hid (HF.out.trans F2)
        clear h2 F2 HF HS
        go_wp2_with fail
        go_roundw
        case rel =>
          refine ⟨k + 1, by omega, by go_num, ?_, ?_, HF2.out⟩
          · rw [HST.out]; simp [mixStep, HR.out]
          · rw [HST.out]
            have hw : IntKind.u64.wrap (x * 72057594037927936) = x * 72057594037927936 := wrapU (by omega) (by omega)
            simp only [mixStep, HR.out, if_true, show (8 * 7 : Nat) = 56 from rfl, show (2 : Int) ^ 56 = 72057594037927936 from by decide, hw]
            exact H2.out
        case measure => simp [intOf]; omega
      · go_wp2_with fail
        go_roundw
        case rel =>
          refine ⟨k + 1, by omega, by go_num, ?_, ?_, HF.out⟩
          · rw [HST.out]; simp [mixStep, HR.out, h7]
          · rw [HST.out]; simp only [mixStep, HR.out, if_neg h7]; exact HS.out
        case measure => simp [intOf]; omega
    · have hkk : n = k := by omega
      subst hkk
      have htk : bs.take n = bs := by rw [← HN.out, List.take_length]
      rw [htk] at hS ⊢
      have HF := Lib.hid hF
      clear htk hF
      generalize mixFrom (mixS sl, 0) 0 bs = st at *
      obtain ⟨s1, m1⟩ := st
      have HS := Lib.hid hS
      clear hS
      unfold mixEnd at HY
      dsimp only at HY
      rw [show (2 : Int) ^ 56 = 72057594037927936 from by decide] at HY
      go_wp2_with fail
      refine (cWord wr g s1 _ HS.out).mono ?_
      rintro e w2 ⟨rfl, h2, F2⟩
      have HF2 := Lib.hid (HF.out.trans F2)
      clear F2 HF HS
      generalize wrd s1 (bits .or .u64 m1 (IntKind.u64.wrap (n * 72057594037927936))) = s2 at *
      obtain ⟨a2, b2, c2, d2⟩ := s2
      have q2 := cell_obj h2 2 (.int .u64 c2) rfl
      have fz := obj_frozen h2 2
      have H3 : Hid ((w2.setCell ⟨g, 2, none⟩ (.int .u64 (bits .xor .u64 c2 255))).heap[g]? = some (.cells (S4.cs ⟨a2, b2, bits .xor .u64 c2 255, d2⟩) 101)) := Lib.hid (obj_set h2 2 _)
      have HF3 := Lib.hid (HF2.out.setCell (p := ⟨g, 2, none⟩) (fun _ => rfl) (.int .u64 (bits .xor .u64 c2 255)))
      clear h2 HF2
      dsimp only at HY
      go_wp2_with fail
      generalize w2.setCell ⟨g, 2, none⟩ (.int .u64 (bits .xor .u64 c2 255)) = w3 at *
      generalize (⟨a2, b2, bits .xor .u64 c2 255, d2⟩ : S4) = s3 at *
      clear q2 fz
      go_loopw [52] (fun i wr' => ∃ k : Nat, (k : Int) ≤ 4 ∧ i = .int .i64 k ∧ wr'.heap[g]? = some (.cells (rndN k s3).cs 101) ∧ Fr (fun b => b = g) w wr') (fun i _ => 4 - (intOf i).toNat)
      case atStart => exact ⟨0, by omega, rfl, H3.out, HF3.out⟩
      case round =>
        obtain ⟨k, hk4, rfl, hS, hF⟩ := hrel
        have HS := Lib.hid hS; have HF := Lib.hid hF
        clear hS hF H3 HF3
        by_cases h4 : (k : Int) < 4
        · go_wp2_with fail
          refine (cRound _ g _ HS.out).mono ?_
          rintro e w5 ⟨rfl, h5, F5⟩
          have H5 := Lib.hid h5
          have HF5 := Lib.hid (HF.out.trans F5)
          clear h5 F5 HS HF
          go_wp2_with fail
          go_roundw
          case rel => exact ⟨k + 1, by omega, by go_num, H5.out, HF5.out⟩
          case measure => simp [intOf]; omega
        · have hk4' : k = 4 := by omega
          subst hk4'
          unfold rndN rndN rndN rndN rndN at HS
          generalize rnd (rnd (rnd (rnd s3))) = s5 at *
          obtain ⟨a5, b5, c5, d5⟩ := s5
          have q0 := cell_obj HS.out 0 (.int .u64 a5) rfl
          have q1 := cell_obj HS.out 1 (.int .u64 b5) rfl
          have q2 := cell_obj HS.out 2 (.int .u64 c5) rfl
          have q3 := cell_obj HS.out 3 (.int .u64 d5) rfl
          dsimp only at HY
          clear HS
          go_wp2_with fail
          go_quiet (fail)
          go_wp2_with fail
          go_ret
          exact ⟨ret_val (by rw [← HY.out]; rfl), (HF.out.drewN _).toBelow (fun b e => by have := HG.out; omega) (by have := HG.out; omega)⟩
end Go.Proofs.Ytakjiicnbocjeaa
