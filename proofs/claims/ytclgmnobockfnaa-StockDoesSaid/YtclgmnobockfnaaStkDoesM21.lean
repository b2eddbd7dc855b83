/- entrepotref07: the document's stock; Find, Row. -/
import Derived.Test.YtclgmnobockfnaaStkDoesM18
import Derived.Test.YtclgmnobockfnaaStkDoesM20
import Derived.Test.YtclgmnobockfnaaStkDoesM10
import Derived.Test.YtclgmnobockfnaaStkDoesM1
import Derived.Deep.QuietTactic
import Derived.BigQuiet
namespace Go.Proofs.Ytclgmnobockfnaa
open Go.RowKit Go.Maps
theorem infoRow7 : (Try.prog.info? 96).map (fun i => (i.zero, i.size, i.bytes)) = some (some (.agg (rowV [] SR.zero)), 12, 104) := by kernel_rfl
def rowC (p : Str × SR) : List Value := (rowV p.1 p.2).toList
def rcs (A : Stk) : List Value := A.flatMap rowC
theorem rowC_len (p : Str × SR) : (rowC p).length = 12 := rfl
theorem rcs_app (A B : Stk) : rcs (A ++ B) = rcs A ++ rcs B := by simp [rcs]
theorem rcs_len (A : Stk) : (rcs A).length = A.length * 12 := by
  induction A with
  | nil => rfl
  | cons q r ih => simp only [rcs, List.flatMap_cons, List.length_append, List.length_cons, rowC_len] at *; rw [ih]; omega
theorem rowC_one {u : Value} {p : Str × SR} (h : u ∈ rowC p) : u.oneCell' = true := by
  simp only [rowC, rowV, List.mem_cons, List.not_mem_nil, or_false] at h
  rcases h with rfl | rfl | rfl | rfl | rfl | rfl | rfl | rfl | rfl | rfl | rfl | rfl <;> rfl
theorem rcs_one {u : Value} {A : Stk} (h : u ∈ rcs A) : u.oneCell' = true := by
  simp only [rcs, List.mem_flatMap] at h
  obtain ⟨q, _, hq⟩ := h
  exact rowC_one hq
theorem rcs_at : ∀ {A : Stk} {k : Nat} {p : Str × SR}, A[k]? = some p → ∀ (j : Nat) (u : Value), (rowC p)[j]? = some u → (rcs A)[k * 12 + j]? = some u
  | q :: r, 0, p, h, j, u, hj => by
    obtain rfl : q = p := by simpa using h
    show (rowC q ++ rcs r)[0 * 12 + j]? = some u
    rw [show 0 * 12 + j = j by omega, List.getElem?_append_left (List.getElem?_eq_some_iff.1 hj).1]
    exact hj
  | q :: r, k + 1, p, h, j, u, hj => by
    have := rcs_at (A := r) (k := k) (p := p) (by simpa using h) j u hj
    show (rowC q ++ rcs r)[(k + 1) * 12 + j]? = some u
    rw [List.getElem?_append_right (by rw [rowC_len]; omega), rowC_len, show (k + 1) * 12 + j - 12 = k * 12 + j by omega]
    exact this
/-- Object g is the document's stock that says A; it lies in the blocks of TS. -/
structure RS (w : World) (g : Nat) (TS : Nat → Prop) (A : Stk) : Prop where
  ex : ∃ v, w.heap[g]? = some (.cells #[v] 51) ∧ w.ownsRow 0 96 12 v A.length (rcs A) ∧ ∀ b, v.ownBlock = some b → TS b ∧ b ≠ g
  own : TS g
  lt : ∀ b, TS b → b < w.heap.size
theorem RS.fr {S TS : Nat → Prop} {w w' : World} {g : Nat} {A : Stk} (h : RS w g TS A) (hf : Fr S w w') (hS : ∀ b, TS b → ¬ S b) : RS w' g TS A := by
  obtain ⟨⟨v, h1, h2, h3⟩, h5, h6⟩ := h
  exact ⟨⟨v, hf.at_ h1 (hS _ h5), hf.row h2 (fun b hb => hS b (h3 b hb).1), h3⟩, h5, fun b hb => Nat.lt_of_lt_of_le (h6 b hb) hf.size⟩
theorem RS.cell {TS : Nat → Prop} {w : World} {g : Nat} {A : Stk} (h : RS w g TS A) : ∃ a c, w.cell? ⟨g, 0, none⟩ = some (.slice a A.length c) ∧ w.ownsRow 0 96 12 (.slice a A.length c) A.length (rcs A) ∧ ∀ b, (Value.slice a A.length c).ownBlock = some b → TS b ∧ b ≠ g := by
  obtain ⟨⟨v, h1, h2, h3⟩, h5, h6⟩ := h
  obtain ⟨a, c, rfl⟩ := row_sl h2
  exact ⟨a, c, cell_obj h1 0 _ rfl, h2, h3⟩
/-- A row's cells. -/
theorem row12 {w : World} {base n c k : Nat} {a : Option Addr} {A : Stk} {p : Str × SR} (h : w.ownsRow base 96 12 (.slice a n c) n (rcs A)) (hn : n = A.length) (hp : A[k]? = some p) :
    ∃ gp, a = some ⟨gp, 0, none⟩ ∧ ∀ (j : Nat) (u : Value), (rowC p)[j]? = some u → w.cell? ⟨gp, k * 12 + j, none⟩ = some u := by
  have hk : k < n := by rw [hn]; exact (List.getElem?_eq_some_iff.1 hp).1
  rcases h.2 with ⟨e, e0⟩ | ⟨gp, c', cur, e, _, _, hle, _⟩
  · omega
  · injection e with e1 _ e3
    subst e1; subst e3
    refine ⟨gp, rfl, fun j u hu => ?_⟩
    obtain ⟨ad, e, hc⟩ := (Rd.own h).at_ (by omega) (rcs_at hp j u hu)
    cases e
    have : (⟨gp, 0, none⟩ : Addr).add (k * 12 + j) = ⟨gp, k * 12 + j, none⟩ := by unfold Addr.add; split <;> simp_all
    rw [this] at hc; exact hc
theorem getS_find {A : Stk} {s : Str} {k : Nat} {r : SR} (hA : RiseS A) (h : A[k]? = some (s, r)) : getS A s = some r := getK_of (riseS_nd hA) (List.mem_of_getElem? h)
def FindR (A : Stk) (s : Str) (i : Int) : Prop := (∃ (k : Nat) (r : SR), i = k ∧ A[k]? = some (s, r) ∧ getS A s = some r) ∨ (i = -1 ∧ getS A s = none)
set_option maxRecDepth 100000 in
set_option maxHeartbeats 4000000 in
theorem r7Find (w : World) (g : Nat) (TS : Nat → Prop) (A : Stk) (s : Str) (h : RS w g TS A) (hA : RiseS A) (hl : (A.length : Int) ≤ 1099511627776) :
    Calls Try.prog 58 #[.pointer (some ⟨g, 0, none⟩), vS s] w fun e w' => ∃ i, e = .returned (.int .i64 i) ∧ FindR A s i ∧ w' = w := by
  obtain ⟨a, c, hc0, hrow, -⟩ := h.cell
  obtain ⟨n, hn⟩ : ∃ n, A.length = n := ⟨_, rfl⟩
  have HN := Lib.hid hn; have HR := Lib.hid hrow; have HA := Lib.hid hA
  rw [hn] at hl hc0 HR
  clear hrow hn h hA
  go_enter Try.func58, Try.ntmps58
  go_wp2_with fail
  go_loopw [5] (fun i wr => ∃ k : Nat, k ≤ n ∧ i = .int .i64 k ∧ wr = w ∧ ∀ (j : Nat) (p : Str × SR), j < k → A[j]? = some p → p.1 ≠ s) (fun i _ => n - (intOf i).toNat)
  case atStart => exact ⟨0, Nat.zero_le _, rfl, rfl, fun j p hj => by omega⟩
  case round =>
    obtain ⟨k, hk, rfl, rfl, hall⟩ := hrel
    have HALL := Lib.hid hall
    clear hall
    by_cases hlt : k < n
    · obtain ⟨p, hp⟩ : ∃ p, A[k]? = some p := ⟨A[k]'(by rw [HN.out]; exact hlt), List.getElem?_eq_getElem _⟩
      obtain ⟨gp, rfl, hcell⟩ := row12 HR.out HN.out.symm hp
      obtain ⟨gd, r⟩ := p
      have p0 := hcell 0 (vS gd) rfl
      rw [Nat.add_zero] at p0
      have HP := Lib.hid hp
      have hltI : (k : Int) < n := by omega
      clear hcell hp
      by_cases he : gd = s
      · have HE := Lib.hid he
        have heq : ∀ W, (binOp .eql 9 (vS gd) (vS s)).run Try.prog W = .ok (.bool true) W := fun W => by simp [go_sem, he]
        have q1 : (gd == s) = true := by simpa using he
        clear he
        go_wp2_with fail
        go_ret
        exact ⟨_, rfl, .inl ⟨k, r, rfl, by rw [← HE.out]; exact HP.out, by rw [← HE.out]; exact getS_find HA.out HP.out⟩, by first | rfl | trivial⟩
      · have HE := Lib.hid he
        have heq : ∀ W, (binOp .eql 9 (vS gd) (vS s)).run Try.prog W = .ok (.bool false) W := fun W => by simp [go_sem, he]
        have q1 : (gd == s) = false := by simpa using he
        go_wp2_with fail
        go_roundw
        case rel => exact ⟨k + 1, by omega, by go_num, (by first | rfl | trivial), fun j p hj hp => by
          by_cases e : j = k
          · rw [e, HP.out] at hp
            cases hp
            exact HE.out
          · exact HALL.out j p (by omega) hp⟩
        case measure => simp [intOf]; omega
    · have hkn : k = n := by omega
      have hno : Hid (getS A s = none) := Lib.hid (getK_none.2 (fun p hp => by
        obtain ⟨j, hj⟩ := List.getElem?_of_mem hp
        refine HALL.out j p ?_ hj
        have := (List.getElem?_eq_some_iff.1 hj).1
        have := HN.out
        omega))
      clear hkn
      go_wp2_with fail
      go_ret
      exact ⟨_, rfl, .inr ⟨rfl, hno.out⟩, by first | rfl | trivial⟩
set_option maxRecDepth 100000 in
set_option maxHeartbeats 4000000 in
theorem r7Row (w : World) (g : Nat) (TS : Nat → Prop) (A : Stk) (s : Str) (h : RS w g TS A) (hA : RiseS A) (hl : (A.length : Int) ≤ 1099511627776) :
    Calls Try.prog 59 #[.pointer (some ⟨g, 0, none⟩), vS s] w fun e w' => e = .returned (.agg (rowV s (rowAt A s))) ∧ Fr (fun _ => False) w w' := by
  have hz : (w.alloc (.cells (rowV [] SR.zero) 96)) = w.alloc (.cells (rowV [] SR.zero) 96) := rfl
  obtain ⟨n0, hn0⟩ : ∃ n0, w.heap.size = n0 := ⟨_, rfl⟩
  have hF := Lib.hid (Fr.refl (fun _ => False) w)
  have H := Lib.hid h; have HA := Lib.hid hA
  clear hz h hA
  go_enter Try.func59, Try.ntmps59
  go_wp2_with fail
  have hf1 : Fr (fun _ => False) w (w.alloc (.cells #[.string ⟨#[]⟩, .int .i64 0, .int .i64 0, .int .i64 0, .int .i64 0, .int .i64 0, .int .i64 0, .int .i64 0, .int .i64 0, .int .i64 0, .int .i64 0, .int .i64 0] 96)) := (Fr.refl _ w).alloc _
  have HF := Lib.hid hf1
  have HS := Lib.hid hn0
  clear hf1 hF
  have hSW := H.out.fr HF.out (fun _ _ e => e)
  refine (r7Find _ g TS A s hSW HA.out hl).mono ?_
  rintro e w1 ⟨i, rfl, hfi, rfl⟩
  obtain ⟨a, c, hc0, hrow, -⟩ := hSW.cell
  obtain ⟨n, hn⟩ : ∃ n, A.length = n := ⟨_, rfl⟩
  have HN := Lib.hid hn; have HR := Lib.hid hrow
  rw [hn] at hl hc0 HR
  clear hrow hn hSW
  rcases hfi with ⟨k, r, rfl, hk, hg⟩ | ⟨rfl, hg⟩
  · obtain ⟨gp, rfl, hcell⟩ := row12 HR.out HN.out.symm hk
    have hkn : (k : Int) < n := by have := (List.getElem?_eq_some_iff.1 hk).1; have := HN.out; omega
    have hrA : Hid (rowAt A s = r) := Lib.hid (by unfold rowAt; rw [hg]; rfl)
    have p0 := hcell 0 (vS s) rfl
    have p1 := hcell 1 (.int .i64 r.free) rfl
    have p2 := hcell 2 (.int .i64 r.held) rfl
    have p3 := hcell 3 (.int .i64 r.picked) rfl
    have p4 := hcell 4 (.int .i64 r.aside) rfl
    have p5 := hcell 5 (.int .i64 r.received) rfl
    have p6 := hcell 6 (.int .i64 r.returned) rfl
    have p7 := hcell 7 (.int .i64 r.counted) rfl
    have p8 := hcell 8 (.int .i64 r.came) rfl
    have p9 := hcell 9 (.int .i64 r.shipped) rfl
    have p10 := hcell 10 (.int .i64 r.scrapped) rfl
    have p11 := hcell 11 (.int .i64 r.sent) rfl
    rw [Nat.add_zero] at p0
    clear hcell hk hg
    go_wp2_with fail
    subst hn0
    refine bodyPost_ret (v := .agg (rowV s r)) (by simp [results, Try.results59, go_sem, rowV]) rfl ⟨by rw [hrA.out], (Fr.refl _ w).alloc _⟩
  · have hrA : Hid (rowAt A s = SR.zero) := Lib.hid (by unfold rowAt; rw [hg]; rfl)
    clear hg
    go_wp2_with fail
    subst hn0
    refine bodyPost_ret (v := .agg (rowV s SR.zero)) (by simp [results, Try.results59, go_sem, rowV, SR.zero]) rfl ⟨by rw [hrA.out], (Fr.refl _ w).alloc _⟩
end Go.Proofs.Ytclgmnobockfnaa
