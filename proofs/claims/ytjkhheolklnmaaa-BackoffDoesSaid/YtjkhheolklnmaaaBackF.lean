/- backoff.Timers.All: the iterator's contract -/
import Derived.Test.YtjkhheolklnmaaaBackE
import Derived.Test.YtjkhheolklnmaaaRange
namespace Go.Proofs.Ytjkhheolklnmaaa
open Go.RowKit Go.Maps
theorem Tm.fr {S : Nat → Prop} {w w' : World} {g m : Nat} {l : List KV} (h : Tm w g m l) (hk : Fr S w w') (h1 : ¬ S g) (h2 : ¬ S m) : Tm w' g m l := ⟨hk.at_ h.box h1, hk.mp h.map h2⟩
theorem Tm.fa {B : Nat} {w w' : World} {g m : Nat} {l : List KV} (h : Tm w g m l) (hk : Fa B w w') : Tm w' g m l := ⟨Fa.cells hk h.box, Fa.mp hk h.map⟩
theorem boxed_below {B : Nat} {w w' : World} {b : Nat} {t : TypeId} {v : Value} (h : Boxed w b t v) (hb : Below B w w') (h1 : b < B) : Boxed w' b t v := (hb.block b h1).trans h
theorem Ab.below {B : Nat} {J : World → Prop} {W W' : World} (hJ : Ab B J) (h : J W) (hb : Below W.heap.size W W') : J W' := hJ W W' h (Fr.below hb)
def encKV (p : KV) : Array Value := #[.int .i64 p.1, .int .i64 p.2]
attribute [local go_sem] Oper.semAt_some
set_option maxHeartbeats 1000000 in
theorem bAll1 (S : Nat → Prop) (w : World) (Bt g m : Nat) (l X : List KV) (hBt : Boxed w Bt 28 (.pointer (some ⟨g, 0, none⟩)))
    (h : Tm w g m l) (hX : Rp l X) (hl : l.length * 8 ≤ 140737488355328) (h1 : ¬ S Bt) (h2 : ¬ S g) (h3 : ¬ S m) :
    ItX 25 #[.pointer (some ⟨Bt, 0, none⟩)] encKV X S w := by
  intro lp S' J Jx W hW hS' hJ hY hJx h0
  have hBtW := boxed_below hBt hW hBt.lt
  have hTW := h.below hW h.glt h.map.lt
  have hord := bOrder g m W hTW hX hl
  have hget := fun (w : World) (h : Tm w g m l) (p : KV) (hp : p ∈ X) => h.map.look tmK Try.underlying51 (zeroInt w) ((h.map.ok tmK).1 p (hX.perm.mem_iff.1 hp))
  have hnd := hX.nd
  have hxl : X.length ≤ 9223372036854775807 := by have := hX.len; omega
  have n1 : ¬ S' Bt := fun e => h1 ((hS' _ e).2 hBt.lt)
  have n2 : ¬ S' g := fun e => h2 ((hS' _ e).2 h.glt)
  have n3 : ¬ S' m := fun e => h3 ((hS' _ e).2 h.map.lt)
  have HO := Lib.hid hord; have HG := Lib.hid hget; have HX := Lib.hid hX; have HS := Lib.hid hS'
  clear hord hget hX hS' h1 h2 h3
  have hcB := hBtW.cell
  have hfn : ∀ f, Fence.wide.fn f := fun _ => trivial
  have hdp : Fence.wide.depth.isSome = false := rfl
  refine (callsIn_wide (n := 0)).1 ?_
  rcases Nat.eq_zero_or_pos X.length with hx0 | hx0
  · have hXn : X = [] := List.eq_nil_of_length_eq_zero hx0
    subst hXn
    refine callsIn_of_wp Try.func25 rfl trivial ?_ rfl
    simp only [Try.ntmps25, List.size_toArray, List.length_cons, List.length_nil, Nat.reduceAdd, Nat.reduceSub, Array.replicate_succ, Array.replicate_zero, List.push_toArray, List.append_toArray, List.nil_append, List.cons_append]
    gi_wp2_with (gi_at_call 26; refine (callsIn_wide.2 HO.out).mono ?_; rintro e w1 ⟨v, rfl, hown, hb⟩; obtain ⟨a, c, rfl⟩ := own_zero hown; clear hown)
    have hJ1 := (hJ 0 _).below h0 hb
    gi_loopw [8] (fun i wr => i = .int .i64 0 ∧ J 0 (fun _ => False) wr) (fun _ _ => 0)
    case atStart => exact ⟨rfl, hJ1⟩
    case round =>
      obtain ⟨rfl, hJr⟩ := hrel
      gi_wp2
      go_end0
      exact ⟨⟨_, rfl⟩, .inl ⟨_, hJr⟩⟩
  · refine callsIn_of_wp Try.func25 rfl trivial ?_ rfl
    simp only [Try.ntmps25, List.size_toArray, List.length_cons, List.length_nil, Nat.reduceAdd, Nat.reduceSub, Array.replicate_succ, Array.replicate_zero, List.push_toArray, List.append_toArray, List.nil_append, List.cons_append]
    gi_wp2_with (gi_at_call 26; refine (callsIn_wide.2 HO.out).mono ?_; rintro e w1 ⟨v, rfl, hown, hb⟩; obtain ⟨g', cap, rfl, hg', hlt⟩ := hown.form hx0)
    have hJ1 := (hJ 0 _).below h0 hb
    have hT1 := hTW.below hb hTW.glt hTW.map.lt
    have hB1 := boxed_below hBtW hb hBtW.lt
    have n4 : ¬ S' g' := fun e => by have := (HS.out _ e).1; omega
    clear HO hTW hBtW h0 hcB
    gi_loopw [8] (fun i wr => ∃ (k : Nat) (C : Nat → Prop), k ≤ X.length ∧ i = .int .i64 k ∧ J k C wr ∧ (∀ b, C b → w1.heap.size ≤ b) ∧ Fr (fun b => S' b ∨ C b) w1 wr) (fun i _ => X.length - (intOf i).toNat)
    case atStart => exact ⟨0, _, Nat.zero_le _, rfl, hJ1, fun _ h => h.elim, Fr.refl _ _⟩
    case round =>
      obtain ⟨k, C, hk, rfl, hJr, hC, hkp⟩ := hrel
      have m1 : ¬ (S' Bt ∨ C Bt) := fun e => e.elim n1 (fun e => by have := hC _ e; have := hB1.lt; omega)
      have m2 : ¬ (S' g ∨ C g) := fun e => e.elim n2 (fun e => by have := hC _ e; have := hT1.glt; omega)
      have m3 : ¬ (S' m ∨ C m) := fun e => e.elim n3 (fun e => by have := hC _ e; have := hT1.map.lt; omega)
      have m4 : ¬ (S' g' ∨ C g') := fun e => e.elim n4 (fun e => by have := hC _ e; omega)
      have hTr := hT1.fr hkp m2 m3
      have hBr := (hkp.box hB1 m1).cell
      have hgr := hTr.cell
      by_cases hlt2 : k < X.length
      · have hown2 := hkp.row hown (fun b e => by obtain rfl : g' = b := (by simpa [Value.ownBlock] using e); exact m4)
        obtain ⟨p, hp⟩ : ∃ p, X[k]? = some p := ⟨X[k], List.getElem?_eq_getElem hlt2⟩
        have hcx : wr.cell? ⟨g', k, none⟩ = some (.int .i64 p.1) := by
          have := hown2.cellAt (g := g') (j := k) (by simpa using hlt2)
          rw [this]; simp [hp]
        have hmem : p ∈ X := List.mem_of_getElem? hp
        have hlk : (Instr.lookup 51 (.map (some m)) (.int .i64 p.1) false).run Try.prog wr = .ok (.int .i64 p.2) wr := by
          have := HG.out wr hTr p hmem
          rw [getS_of hnd (v := p.2) (HX.out.perm.mem_iff.1 hmem)] at this
          exact this
        obtain ⟨fn, tmps, assign, body, hy, hR⟩ := hY k p C wr hp hJr
        dsimp only [encKV] at hy
        have HK := Lib.hid hkp
        clear hTr hown2 hkp hp hmem hJr
        gi_wp2
        refine hR.mono ?_
        rintro e W3 (⟨rfl, hJ3, hk3⟩ | ⟨rfl, hJx3, _⟩)
        · gi_wp2
          go_roundw
          case rel => 
            refine ⟨k + 1, _, by omega, by go_num, hJ3, ?_, ?_⟩
            · rintro b (e | e)
              · exact hC _ e
              · have := HK.out.size; omega
            · exact (HK.out.mono (fun b _ e => e.elim .inl (fun e => .inr (.inl e)))).trans (hk3.mono (fun b _ e => e.elim .inl (fun e => .inr (.inl e))))
          case measure => simp [intOf]; omega
        · gi_wp2
          refine bodyPost_ret (results_none rfl _ _ _) rfl ?_
          exact ⟨⟨_, rfl⟩, .inr ⟨_, _, hlt2, hJx3⟩⟩
      · have : k = X.length := by omega
        subst this
        gi_wp2
        go_end0
        exact ⟨⟨_, rfl⟩, .inl ⟨_, hJr⟩⟩
set_option maxHeartbeats 1000000 in
theorem bAll1_no (S : Nat → Prop) (w : World) (Bt : Nat) (hBt : Boxed w Bt 28 (.pointer none)) :
    ItX 25 #[.pointer (some ⟨Bt, 0, none⟩)] encKV [] S w := by
  intro lp S' J Jx W hW hS' hJ hY hJx h0
  have hcB := (boxed_below hBt hW hBt.lt).cell
  have hJ1 := (hJ 0 _).below h0 ((Below.refl W.heap.size W).alloc (Nat.le_refl _) (.cells #[.pointer none] 28))
  have hfn : ∀ f, Fence.wide.fn f := fun _ => trivial
  have hdp : Fence.wide.depth.isSome = false := rfl
  clear hY hS'
  refine (callsIn_wide (n := 0)).1 ?_
  refine callsIn_of_wp Try.func25 rfl trivial ?_ rfl
  simp only [Try.ntmps25, List.size_toArray, List.length_cons, List.length_nil, Nat.reduceAdd, Nat.reduceSub, Array.replicate_succ, Array.replicate_zero, List.push_toArray, List.append_toArray, List.nil_append, List.cons_append]
  gi_wp2_with (gi_at_call 26; refine (callsIn_wide.2 (bOrder_no _)).mono ?_; rintro e w1 ⟨rfl, rfl⟩)
  gi_loopw [8] (fun i wr => i = .int .i64 0 ∧ J 0 (fun _ => False) wr) (fun _ _ => 0)
  case atStart => exact ⟨rfl, hJ1⟩
  case round =>
    obtain ⟨rfl, hJr⟩ := hrel
    gi_wp2
    go_end0
    exact ⟨⟨_, rfl⟩, .inl ⟨_, hJr⟩⟩
theorem bAll (p : Option Addr) (w : World) : Calls Try.prog 23 #[.pointer p] w fun e w' =>
    e = .returned (.func (.func 25) #[] #[.pointer (some ⟨w.heap.size, 0, none⟩)]) ∧ w' = w.alloc (.cells #[.pointer p] 28) := by
  go_enter Try.func23, Try.ntmps23
  go_wp2
  go_ret
  exact ⟨rfl, rfl⟩
end Go.Proofs.Ytjkhheolklnmaaa
