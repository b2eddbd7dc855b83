/- Texts of this claim, joined: Posts in memory; move: Go; move: Come, Move, Forget of a move that is known; region: send; region, plainly: codes, what send leaves alone. -/
import Derived.Test.YtmflpeklalgibaaGreatRegionGoodsM6
import Derived.Test.YtmflpeklalgibaaGreatRegionGoodsM1
import Derived.Test.YtmflpeklalgibaaGreatRegionGoodsM2
import Derived.Test.YtmflpeklalgibaaGreatRegionGoodsM5
import Derived.Test.YtmflpeklalgibaaGreatRegionGoodsM3
namespace Go.Proofs.YtmflpeklalgibaaGreat
open Go.RowKit Go.Maps
/-- The blocks of a mail's lists. -/
def MV.own (m : MV) (b : Nat) : Prop := (m.its ≠ [] ∧ m.l.ownBlock = some b) ∨ (m.a.its ≠ [] ∧ m.a.l.ownBlock = some b)
theorem AOk.keep {S : Nat → Prop} {w w' : World} {a : AV} (h : AOk w a) (hf : Fr S w w') (hS : a.its ≠ [] → ∀ b, a.l.ownBlock = some b → ¬ S b) : AOk w' a :=
  ⟨h.c, h.n, h.k, h.o, h.r, h.t, h.m, h.g, h.l.keep hf hS⟩
theorem MOk.keep {S : Nat → Prop} {w w' : World} {m : MV} (h : MOk w m) (hf : Fr S w w') (hS : ∀ b, m.own b → ¬ S b) : MOk w' m :=
  ⟨h.kd, h.od, h.l.keep hf (fun hn b hb => hS b (.inl ⟨hn, hb⟩)), h.a.keep hf (fun hn b hb => hS b (.inr ⟨hn, hb⟩)), ⟨h.y.c, h.y.n, h.y.code, h.y.m⟩⟩
theorem MOk.lt {w : World} {m : MV} (h : MOk w m) {b : Nat} (hb : m.own b) : b < w.heap.size := hb.elim (fun q => h.l.lt q.1 b q.2) (fun q => h.a.l.lt q.1 b q.2)
/-- A post's cells. -/
def pcs (p : Int × MV) : Array Value := #[.int .i64 p.1, .int .i64 p.2.kd, .int .i64 p.2.od, p.2.l, .int .i64 p.2.a.c, .int .i64 p.2.a.n, .int .i64 p.2.a.k, .int .i64 p.2.a.o, .int .i64 p.2.a.r, .int .i64 p.2.a.t, .int .i64 p.2.a.m, vS p.2.a.g, p.2.a.l, .int .i64 p.2.y.c, .int .i64 p.2.y.n, .int .i64 p.2.y.code, .int .i64 p.2.y.m]
def nfP (p : Int × MV) : Int × MV := (p.1, p.2.nf)
/-- Posts in a row of the call's own: none of its blocks is one of TS. -/
structure Pst (W : World) (base : Nat) (v : Value) (L : List (Int × MV)) (TS : Nat → Prop) : Prop where
  row : W.ownsRow base 67 17 v L.length (flat pcs L)
  nt : ∀ b, v.ownBlock = some b → ¬ TS b
  ok : ∀ p ∈ L, okI p.1 ∧ MOk W p.2 ∧ ∀ b, p.2.own b → ¬ TS b ∧ v.ownBlock ≠ some b
section
variable {W W' : World} {base : Nat} {v : Value} {L : List (Int × MV)} {TS TS' : Nat → Prop}
theorem Pst.step (h : Pst W base v L TS) (hs : Stp TS W W' TS') : Pst W' base v L TS' :=
  ⟨hs.1.row h.row h.nt, fun b hb e => (hs.2 b e).elim (h.nt b hb) (fun e => by have := (h.row.lt b hb).2; omega), fun p hp => ⟨(h.ok p hp).1, (h.ok p hp).2.1.keep hs.1 (fun b hb => ((h.ok p hp).2.2 b hb).1), fun b hb => ⟨fun e => (hs.2 b e).elim ((h.ok p hp).2.2 b hb).1 (fun e => by have := (h.ok p hp).2.1.lt hb; omega), ((h.ok p hp).2.2 b hb).2⟩⟩⟩
theorem Pst.keep0 (h : Pst W base v L TS) (hf : Fr (fun _ => False) W W') : Pst W' base v L TS :=
  ⟨hf.row h.row (fun _ _ e => e), h.nt, fun p hp => ⟨(h.ok p hp).1, (h.ok p hp).2.1.keep hf (fun _ _ e => e), (h.ok p hp).2.2⟩⟩
theorem Pst.keepK {K : Nat → Prop} (h : Pst W base v L TS) (hf : Fr K W W') (h1 : ∀ b, v.ownBlock = some b → ¬ K b) (h2 : ∀ p ∈ L, ∀ b, p.2.own b → ¬ K b) : Pst W' base v L TS :=
  ⟨hf.row h.row h1, h.nt, fun p hp => ⟨(h.ok p hp).1, (h.ok p hp).2.1.keep hf (h2 p hp), (h.ok p hp).2.2⟩⟩
theorem Pst.nil : Pst W base (.slice none 0 0) [] TS := ⟨World.ownsRow_nil _ _ _ _, fun b hb => (by cases hb), fun p hp => (by cases hp)⟩
theorem Pst.low {base' : Nat} (h : Pst W base v L TS) (hb : base' ≤ base) : Pst W base' v L TS := ⟨own_base h.row hb, h.nt, h.ok⟩
theorem flat_pcs1 (p : Int × MV) : flat pcs [p] = (pcs p).toList := by simp [flat]
/-- A literal of one post. -/
theorem Pst.one {b : Nat} {p : Int × MV} (hb : W.heap[b]? = some (.cells (pcs p) 67)) (hbase : base ≤ b) (ht : ¬ TS b) (hp : okI p.1 ∧ MOk W p.2 ∧ ∀ c, p.2.own c → ¬ TS c ∧ c ≠ b) : Pst W base (.slice (some ⟨b, 0, none⟩) 1 1) [p] TS := by
  refine ⟨⟨by rw [flat_pcs1]; rfl, .inr ⟨b, 1, pcs p, rfl, hbase, hb, Nat.le_refl _, by decide, rfl, by rw [flat_pcs1]; rfl⟩⟩, fun c hc e => ?_, fun q hq => ?_⟩
  · obtain rfl : b = c := (by simpa [Value.ownBlock] using hc)
    exact ht e
  · rw [List.mem_singleton.1 hq]
    exact ⟨hp.1, hp.2.1, fun c hc => ⟨(hp.2.2 c hc).1, fun e => (hp.2.2 c hc).2 (by simpa [Value.ownBlock] using e.symm)⟩⟩
theorem pcs_one {p : Int × MV} {w : World} (h : MOk w p.2) : ∀ u ∈ pcs p, u.oneCell' = true := by
  intro u hu
  obtain ⟨a, c, e⟩ := h.l.sl
  obtain ⟨a', c', e'⟩ := h.a.l.sl
  unfold pcs at hu
  rw [e, e'] at hu
  simp only [List.mem_toArray, List.mem_cons, List.not_mem_nil, or_false] at hu
  rcases hu with h | h | h | h | h | h | h | h | h | h | h | h | h | h | h | h | h <;> (subst h; rfl)
theorem flat_one2 {L : List (Int × MV)} {w : World} (h : ∀ p ∈ L, MOk w p.2) : ∀ u ∈ flat pcs L, u.oneCell' = true := fun u hu => by
  unfold flat at hu
  obtain ⟨p, hp, hu⟩ := List.mem_flatMap.1 hu
  exact pcs_one (h p hp) u (by simpa using hu)
/-- More posts behind them. -/
theorem Pst.app {v' : Value} {M : List (Int × MV)} (h : Pst W base v L TS) (ho : W'.ownsRow base 67 17 v' (L.length + M.length) (flat pcs L ++ flat pcs M)) (hg : Fr (fun b => v.ownBlock = some b) W W')
    (hl : v'.ownBlock = v.ownBlock ∨ ∃ n, v'.ownBlock = some n ∧ W.heap.size ≤ n) (hTS : ∀ b, TS b → b < W.heap.size) (hM : ∀ p ∈ M, okI p.1 ∧ MOk W p.2 ∧ ∀ b, p.2.own b → ¬ TS b ∧ v.ownBlock ≠ some b) : Pst W' base v' (L ++ M) TS := by
  have key : ∀ p : Int × MV, (okI p.1 ∧ MOk W p.2 ∧ ∀ b, p.2.own b → ¬ TS b ∧ v.ownBlock ≠ some b) → okI p.1 ∧ MOk W' p.2 ∧ ∀ b, p.2.own b → ¬ TS b ∧ v'.ownBlock ≠ some b := fun p hp =>
    ⟨hp.1, hp.2.1.keep hg (fun b hb => (hp.2.2 b hb).2), fun b hb => ⟨(hp.2.2 b hb).1, fun e => by
      rcases hl with q | ⟨n, q, hn⟩
      · exact (hp.2.2 b hb).2 (q ▸ e)
      · rw [q] at e; injection e with e; have := hp.2.1.lt hb; omega⟩⟩
  refine ⟨by rw [List.length_append, flat_app]; exact ho, fun b hb e => ?_, fun p hp => ?_⟩
  · rcases hl with q | ⟨n, q, hn⟩
    · exact h.nt b (q ▸ hb) e
    · rw [q] at hb; injection hb with hb; have := hTS b e; omega
  · rcases List.mem_append.1 hp with hp | hp
    · exact key p (h.ok p hp)
    · exact key p (hM p hp)
/-- One more post. -/
theorem Pst.push {v' : Value} {p : Int × MV} {o : Obj} (h : Pst W base v L TS) (hTS : ∀ b, TS b → b < W.heap.size) (hp : okI p.1 ∧ MOk W p.2 ∧ ∀ b, p.2.own b → ¬ TS b ∧ v.ownBlock ≠ some b)
    (ho : W'.ownsRow base 67 17 v' (L.length + 1) (flat pcs L ++ (pcs p).toList)) (hg : (W.alloc o).grownBy W' v.ownBlock) (hl : v'.ownBlock = v.ownBlock ∨ v'.ownBlock = some (W.alloc o).heap.size) :
    Pst W' base v' (L ++ [p]) TS ∧ Fr (fun b => v.ownBlock = some b) W W' := by
  have hf : Fr (fun b => v.ownBlock = some b) W W' := ((Fr.refl _ W).alloc o).trans (Fr.grown hg (fun r hr _ => hr))
  exact ⟨h.app (M := [p]) (by rw [flat_pcs1]; exact ho) hf (hl.imp id (fun e => ⟨_, e, by simp⟩)) hTS (fun q hq => by rw [List.mem_singleton.1 hq]; exact hp), hf⟩
end
theorem own_nil {k o : Int} {v : Value} {y : YV} {b : Nat} : ¬ MV.own ⟨k, o, v, [], av0, y⟩ b := fun h => h.elim (fun e => e.1 rfl) (fun e => e.1 rfl)
theorem av0_ok {w : World} : AOk w av0 := ⟨⟨by decide, by decide⟩, ⟨by decide, by decide⟩, ⟨by decide, by decide⟩, ⟨by decide, by decide⟩, ⟨by decide, by decide⟩, ⟨by decide, by decide⟩, ⟨by decide, by decide⟩, by simp [av0, okS], Nat.zero_le _, none, 0, rfl, fun i p hp => by simp [av0] at hp⟩
theorem yv0_ok {w : World} : YOk w yv0 := ⟨⟨by decide, by decide⟩, ⟨by decide, by decide⟩, ⟨by decide, by decide⟩, ⟨by decide, by decide⟩⟩
theorem okI_lit {n : Int} (h : 0 ≤ n ∧ n ≤ 1000) : okI n := ⟨by omega, by omega⟩
theorem mok_nil {w : World} {k o : Int} {y : YV} (hk : 0 ≤ k ∧ k ≤ 1000) (ho : okI o) (hy : YOk w y) : MOk w ⟨k, o, niv, [], av0, y⟩ := ⟨okI_lit hk, ho, ⟨Nat.zero_le _, none, 0, rfl, fun i p hp => by simp at hp⟩, av0_ok, hy⟩
/-- Mail that holds no request. -/
theorem mok_its {w : World} {k o : Int} {v : Value} {L : Its} (hk : 0 ≤ k ∧ k ≤ 1000) (ho : okI o) (h : Il w v L) : MOk w ⟨k, o, v, L, av0, yv0⟩ := ⟨okI_lit hk, ho, h, av0_ok, yv0_ok⟩
theorem own_its {k o : Int} {v : Value} {L : Its} {y : YV} {b : Nat} (h : MV.own ⟨k, o, v, L, av0, y⟩ b) : L ≠ [] ∧ v.ownBlock = some b := h.elim id (fun e => absurd rfl e.1)
theorem infoPost : (Tryz.prog.info? 67).map (fun i => (i.zero, i.size, i.bytes)) = some (some (.agg #[.int .i64 0, .int .i64 0, .int .i64 0, .slice none 0 0, .int .i64 0, .int .i64 0, .int .i64 0, .int .i64 0, .int .i64 0, .int .i64 0, .int .i64 0, .string ⟨#[]⟩, .slice none 0 0, .int .i64 0, .int .i64 0, .int .i64 0, .int .i64 0]), 17, 176) := by kernel_rfl
end Go.Proofs.YtmflpeklalgibaaGreat

namespace Go.Proofs.YtmflpeklalgibaaGreat
open Go.RowKit Go.Maps
theorem WB.look {W : World} {g m : Nat} {TB : Nat → Prop} {l : List (Int × WV)} (h : WB W g m TB l) {o : Int} (ho : okI o) :
    ∃ v, (Instr.lookup 91 (.map (some m)) (.int .i64 o) true).run Tryz.prog W = .ok (.tuple #[v, .bool (getS l o).isSome]) W ∧ ∃ a b c d n k s, v = .agg #[.int .i64 a, .int .i64 b, .int .i64 c, .slice d n k, .bool s] ∧ (∀ x, getS l o = some x → v = x.enc ∧ x.v = .slice d n k ∧ x.its.length = n ∧ x.came = s) := by
  have hl := h.mp.look_ok (t := 91) kHI Tryz.underlying91 (z := .agg #[.int .i64 0, .int .i64 0, .int .i64 0, .slice none 0 0, .bool false]) (by kernel_rfl) ho
  cases hg : getS l o with
  | none =>
    rw [hg] at hl
    exact ⟨_, hl, 0, 0, 0, none, 0, 0, false, rfl, fun x e => by cases e⟩
  | some x =>
    rw [hg] at hl
    obtain ⟨-, -, hk, -⟩ := h.rows _ (getS_mem hg)
    obtain ⟨a, c, e⟩ := hk.1.sl
    dsimp only at e
    refine ⟨_, hl, x.mv, x.fr, x.tt, a, x.its.length, c, x.came, ?_, fun y hy => ?_⟩
    · show WV.enc x = _
      unfold WV.enc
      rw [e]
    · injection hy with hy
      subst hy
      exact ⟨rfl, e, rfl, rfl⟩
set_option maxRecDepth 100000 in
set_option maxHeartbeats 8000000 in
theorem vGo (w : World) (g : Nat) (TS : Nat → Prop) (ws : List (Int × WE)) (mv fr tt : Int) (v : Value) (L : Its) (h : WS w g TS ws) (hws : ws.length ≤ 1000000) (ho : okI mv) (hv : Il w v L) :
    Calls Tryz.prog 96 #[.pointer (some ⟨g, 0, none⟩), .int .i64 mv, .int .i64 fr, .int .i64 tt, v] w fun e w' => ∃ TS', e = .returned (.int .i64 (goF ws mv fr tt L).1) ∧ WS w' g TS' (goF ws mv fr tt L).2 ∧ Stp TS w w' TS' := by
  have HWS := Lib.hid h
  obtain ⟨m, TB, lv, hb, he, hT⟩ := h
  have HB := Lib.hid hb; have HT := Lib.hid hT; have HE := Lib.hid he
  have hc := hb.cell
  have hlen : lv.length = ws.length := by rw [← he, List.length_map]
  have hkn : (getS lv mv).isSome = (getS ws mv).isSome := by rw [← he, getS_map]; cases getS lv mv <;> rfl
  have hlk := hb.look ho
  rw [hkn] at hlk
  obtain ⟨lw, hl1, a1, a2, a3, a4, a5, a6, a7, rfl, -⟩ := hlk
  have hln := fun W (hf : Fr (fun _ => False) w W) ty => (hf.mp hb.mp (fun e => e)).len (t := 91) Tryz.underlying91 ty
  have hmd := Lib.hid (fun W (hf : Fr (fun _ => False) w W) => vmade W g m (hf.cell hc (fun e => e)))
  have his := Lib.hid vis
  obtain ⟨R, hR⟩ : ∃ R, goF ws mv fr tt L = R := ⟨_, rfl⟩
  have hRd : R = goF ws mv fr tt L := hR.symm
  rw [hR]
  unfold goF at hRd
  rw [hlen] at hln
  obtain ⟨N, hN⟩ : ∃ N, ws.length = N := ⟨_, rfl⟩
  rw [hN] at hln hRd hws
  have HLN := Lib.hid hln
  clear hln
  have HN := Lib.hid (hlen.trans hN)
  clear hlen hkn he hT hb hR hN
  have hno : ∀ W c, Fr (fun _ => False) w W → R = (c, ws) → ∃ TS', Ending.returned (.int .i64 c) = Ending.returned (.int .i64 R.1) ∧ WS W g TS' R.2 ∧ Stp TS w W TS' := fun W c hf e => by
    rw [e]
    exact ⟨TS, rfl, HWS.out.keep hf (fun _ _ e => e), Stp.refl hf⟩
  have HNO := Lib.hid hno
  clear hno
  obtain ⟨p, c, rfl⟩ := hv.sl
  obtain ⟨M, hM⟩ : ∃ M, L.length = M := ⟨_, rfl⟩
  have HV := Lib.hid hv
  rw [hM] at HV ⊢
  have HMM := Lib.hid hM
  clear hv hM
  by_cases q : mv < 1 ∨ 1099511627776 < mv ∨ isR fr = false ∨ isR tt = false ∨ fr = tt
  · rw [if_pos q] at hRd
    have HR := Lib.hid hRd
    clear hRd
    have q2 : mv < 1 ∨ (¬ mv < 1 ∧ 1099511627776 < mv) ∨ (¬ mv < 1 ∧ ¬ 1099511627776 < mv ∧ isR fr = false) ∨ (¬ mv < 1 ∧ ¬ 1099511627776 < mv ∧ isR fr = true ∧ isR tt = false) ∨ (¬ mv < 1 ∧ ¬ 1099511627776 < mv ∧ isR fr = true ∧ isR tt = true ∧ fr = tt) := by
      by_cases a1 : mv < 1
      · exact .inl a1
      by_cases a2 : 1099511627776 < mv
      · exact .inr (.inl ⟨a1, a2⟩)
      cases a3 : isR fr
      · exact .inr (.inr (.inl ⟨a1, a2, rfl⟩))
      cases a4 : isR tt
      · exact .inr (.inr (.inr (.inl ⟨a1, a2, rfl, rfl⟩)))
      · exact .inr (.inr (.inr (.inr ⟨a1, a2, rfl, rfl, by simpa [a1, a2, a3, a4] using q⟩)))
    clear q
    rcases q2 with q | ⟨q, q2⟩ | ⟨q, q2, q3⟩ | ⟨q, q2, q3, q4⟩ | ⟨q, q2, q3, q4, q5⟩
    all_goals
      go_enter Tryz.func96, Tryz.ntmps96
      go_wp2_with (first
        | (go_at_call 115; refine (hmd.out _ (Fr.refl _ _)).mono ?_; rintro e w1 ⟨rfl, rfl⟩)
        | (go_at_call 116; refine (his.out _ _).mono ?_; rintro e w1 ⟨rfl, rfl⟩))
      go_ret
      exact HNO.out _ _ ((Fr.refl _ _).alloc _) HR.out
  rw [if_neg q] at hRd
  simp only [not_or, Bool.not_eq_false] at q
  obtain ⟨q1', q2', q3, q4, q5'⟩ := q
  have q1 : decide (mv < 1) = false := by simpa using q1'
  have q2 : decide ((1099511627776 : Int) < mv) = false := by simpa using q2'
  have q5 : (fr == tt) = false := by simpa using q5'
  clear q1' q2' q5'
  have hmay : Hid (∀ W (hf : Fr (fun _ => False) w W), Calls Tryz.prog 44 #[.slice p M c] W fun e w' => e = .returned (.bool (mayL L)) ∧ Fr (fun _ => False) W w') := Lib.hid (fun W hf => by have := iMay W _ L (HV.out.keep hf (fun _ _ _ e => e)); exact this)
  obtain ⟨B, hB⟩ : ∃ B, mayL L = B := ⟨_, rfl⟩
  have hBB := Lib.hid hB
  rw [hB] at hmay hRd
  clear hB
  by_cases q6 : B = false ∨ L = []
  · rw [if_pos q6] at hRd
    have HR := Lib.hid hRd
    clear hRd
    have q7 : B = false ∨ (B = true ∧ M = 0) := by
      cases B
      · exact .inl rfl
      · exact .inr ⟨rfl, by rw [← HMM.out]; simpa using q6⟩
    clear q6
    rcases q7 with rfl | ⟨rfl, rfl⟩
    all_goals
      go_enter Tryz.func96, Tryz.ntmps96
      go_wp2_with (first
        | (go_at_call 115; refine (hmd.out _ (Fr.refl _ _)).mono ?_; rintro e w1 ⟨rfl, rfl⟩)
        | (go_at_call 116; refine (his.out _ _).mono ?_; rintro e w1 ⟨rfl, rfl⟩)
        | (go_at_call 44; refine (hmay.out _ ((Fr.refl _ _).alloc _)).mono ?_; rintro e w1 ⟨rfl, hf⟩; have HF := Lib.hid hf; clear hf))
      go_ret
      exact HNO.out _ _ (((Fr.refl _ _).alloc _).trans HF.out) HR.out
  rw [if_neg q6] at hRd
  obtain ⟨rfl, q7⟩ : B = true ∧ ¬ (M : Int) = 0 := by
    simp only [not_or, Bool.not_eq_false] at q6
    refine ⟨q6.1, fun e => q6.2 (List.eq_nil_of_length_eq_zero (by rw [HMM.out]; omega))⟩
  clear q6
  by_cases q8 : (getS ws mv).isSome = true
  · rw [if_pos q8] at hRd
    have HR := Lib.hid hRd
    rw [q8] at hl1
    clear hRd q8
    go_enter Tryz.func96, Tryz.ntmps96
    go_wp2_with (first
      | (go_at_call 115; refine (hmd.out _ (Fr.refl _ _)).mono ?_; rintro e w1 ⟨rfl, rfl⟩)
      | (go_at_call 116; refine (his.out _ _).mono ?_; rintro e w1 ⟨rfl, rfl⟩)
      | (go_at_call 44; refine (hmay.out _ ((Fr.refl _ _).alloc _)).mono ?_; rintro e w1 ⟨rfl, hf⟩; have HF := Lib.hid hf; clear hf))
    go_ret
    exact HNO.out _ _ (((Fr.refl _ _).alloc _).trans HF.out) HR.out
  rw [if_neg q8] at hRd
  have q8' : (getS ws mv).isSome = false := by simpa using q8
  rw [q8'] at hl1
  clear q8 q8'
  by_cases q9 : 256 ≤ N
  · rw [if_pos q9] at hRd
    have HR := Lib.hid hRd
    have q9' : (256 : Int) ≤ N := by omega
    clear hRd q9
    go_enter Tryz.func96, Tryz.ntmps96
    go_wp2_with (first
      | (go_at_call 115; refine (hmd.out _ (Fr.refl _ _)).mono ?_; rintro e w1 ⟨rfl, rfl⟩)
      | (go_at_call 116; refine (his.out _ _).mono ?_; rintro e w1 ⟨rfl, rfl⟩)
      | (go_at_call 44; refine (hmay.out _ ((Fr.refl _ _).alloc _)).mono ?_; rintro e w1 ⟨rfl, hf⟩; have HF := Lib.hid hf; have hc := (((Fr.refl _ _).alloc _).trans hf).cell hc (fun e => e); have hln := fun ty => HLN.out _ (((Fr.refl _ _).alloc _).trans hf) ty; clear hf))
    go_ret
    exact HNO.out _ _ (((Fr.refl _ _).alloc _).trans HF.out) HR.out
  rw [if_neg q9] at hRd
  have q9' : ¬ (256 : Int) ≤ N := by omega
  have HR := Lib.hid hRd
  clear hRd q9
  have hM16 : M ≤ 16 := by rw [← HMM.out]; have h0 := hBB.out; unfold mayL at h0; simp only [Bool.and_eq_true, decide_eq_true_eq] at h0; exact h0.2
  have HM16 := Lib.hid hM16
  have hcl : Hid (∀ W, Fr (fun _ => False) w W → Calls Tryz.prog 54 #[.slice p M c] W fun e w' => ∃ v', e = .returned v' ∧ w'.ownsRow W.heap.size 45 2 v' M (itCs L) ∧ Fr (fun _ => False) W w') := Lib.hid (fun W hf => by
    have := itClone W _ L (HV.out.keep hf (fun _ _ _ e => e)) (by rw [HMM.out]; omega)
    rw [HMM.out] at this
    exact this)
  have hst : Hid (∀ (W : World) (x : WV), x.mv = mv → Fr (fun _ => False) w W → ∃ w', (Instr.mapUpdate 91 (.map (some m)) (.int .i64 mv) x.enc).run Tryz.prog W = .ok () w' ∧ Mp Tryz.prog w' 3 ktI WV.enc m (putS ktI.lt lv mv x) ∧ W.mapTurned w' m) := Lib.hid (fun W x hx hf =>
    (hf.mp HB.out.mp (fun e => e)).store kHI Tryz.underlying91 (by have := HN.out; omega) ho x)
  have HO1 : Hid (∀ p ∈ L, okS p.1 ∧ okI p.2) := Lib.hid (fun p hp => il_okm HV.out hp)
  clear hM16
  go_enter Tryz.func96, Tryz.ntmps96
  go_wp2_with (first
    | (go_at_call 115; refine (hmd.out _ (Fr.refl _ _)).mono ?_; rintro e w1 ⟨rfl, rfl⟩)
    | (go_at_call 116; refine (his.out _ _).mono ?_; rintro e w1 ⟨rfl, rfl⟩)
    | (go_at_call 44; refine (hmay.out _ ((Fr.refl _ _).alloc _)).mono ?_; rintro e w1 ⟨rfl, hf⟩; have HF := Lib.hid hf; have hc := (((Fr.refl _ _).alloc _).trans hf).cell hc (fun e => e); have hln := fun ty => HLN.out _ (((Fr.refl _ _).alloc _).trans hf) ty; clear hf))
  have HF1 : Hid (Fr (fun _ => False) w w1) := Lib.hid (((Fr.refl _ _).alloc _).trans HF.out)
  clear hl1 hln
  have hc1 := HF1.out.cell HB.out.cell (fun e => e)
  refine wp_region_eff [(9, true), (10, true), (11, false)] [] 12 (by kernel_rfl) rfl (by kernel_rfl) (by kernel_rfl) ?_
  apply Exists.intro
  refine ⟨?hh, ?pu, ?ef⟩
  case hh =>
    intro X
    have x0 := FrW.cell (X.fr.cell hc1 (fun e => e))
    simp (config := { decide := true }) only [boxedF, efIdx, List.map_cons, List.map_nil, idleU, if_true, if_false, ite_true, ite_false]
    repeat (go_big_quiet_step (fail))
    exact wpQuiet_nil rfl
  case pu =>
    intro i' hi' o ho
    cases hi'
  case ef =>
    simp only [efOps, List.filterMap_cons, List.filterMap_nil, List.getElem?_cons_succ, List.getElem?_cons_zero, Option.map_some]
    clear hc1 hc
    intro w2 hw2
    go_wp2_with (go_at_call 54; refine (hcl.out _ (HF1.out.trans hw2)).mono ?_; rintro e w3 ⟨v3, rfl, ho3, hf3⟩; rw [← HMM.out] at ho3; have hi3 := Il.own ho3 HO1.out; obtain ⟨b3, d3, rfl⟩ := hi3.1.sl; rw [HMM.out] at hi3 ⊢; have HI3 := Lib.hid hi3; have HF3 := Lib.hid hf3; clear ho3 hf3 hi3)
    refine ⟨HF3.out, ?_⟩
    intro w4 hw4
    have HF4 : Hid (Fr (fun _ => False) w w4) := Lib.hid (HF1.out.trans (hw2.trans (HF3.out.trans hw4)))
    go_wp2_with fail
    refine ⟨Fr.refl _ _, ?_⟩
    intro w5 hw5
    have hF5 : Fr (fun _ => False) w w5 := HF4.out.trans hw5
    obtain ⟨w6, hs6, hm6, ht6⟩ := hst.out w5 ⟨mv, fr, tt, .slice b3 M d3, L, false⟩ rfl hF5
    dsimp only [WV.enc] at hs6
    have hI5 := HI3.out.1.keep (hw4.trans hw5) (fun _ _ _ e => e)
    have hZ5 : w1.heap.size ≤ w2.heap.size ∧ w2.heap.size ≤ w3.heap.size ∧ w3.heap.size ≤ w5.heap.size := ⟨hw2.size, HF3.out.size, (hw4.trans hw5).size⟩
    have HF5 := Lib.hid hF5; have HM6 := Lib.hid hm6; have HT6 := Lib.hid ht6; have HI5 := Lib.hid hI5; have HZ5 := Lib.hid hZ5
    clear hF5 hm6 ht6 hI5 hZ5 hw2 hw4 hw5
    go_wp2_with fail
    clear hs6
    intro w7 hw7
    have HW7 := Lib.hid hw7
    clear hw7
    go_wp2_with fail
    go_ret
    rw [HR.out]
    have hsw := HF1.out.size
    have hz5 := HZ5.out
    have hb5 := HB.out.keep HF5.out (fun _ _ e => e)
    have hlt := HB.out.lt
    have hp := hb5.put (TB' := fun b => TB b ∨ (w.heap.size ≤ b ∧ b < w5.heap.size)) (x := ⟨mv, fr, tt, .slice b3 M d3, L, false⟩) HM6.out HT6.out (fun b hb => .inl hb) ho ⟨HI5.out, fun _ b hb => .inr ⟨by have := (HI3.out.2 b hb).1; omega, by have := (HI3.out.2 b hb).2; omega⟩⟩ (by rw [HMM.out]; exact HM16.out) (fun b hb => by
      rcases hb with hb | hb
      · exact ⟨by have := hlt b (.inr (.inr hb)); omega, fun e => HB.out.ng.1 (e ▸ hb), fun e => HB.out.nm (e ▸ hb)⟩
      · have h1 := hlt g (.inl rfl); have h2 := hlt m (.inr (.inl rfl))
        exact ⟨hb.2, by omega, by omega⟩)
    have hp7 := hp.keep HW7.out (fun _ _ e => e)
    refine ⟨fun b => b = g ∨ b = m ∨ (TB b ∨ (w.heap.size ≤ b ∧ b < w5.heap.size)), rfl, ⟨m, _, _, hp7, ?_, fun b => Iff.rfl⟩, ?_, ?_⟩
    · have := putS_map (f := WV.e) ktI.lt lv mv ⟨mv, fr, tt, .slice b3 M d3, L, false⟩
      rw [HE.out] at this
      exact this.symm
    · exact ((HF5.out.mono (fun _ _ e => e.elim)).trans' (Fr.turned (S := fun b => b = m) HT6.out rfl) (fun b _ e => (HT.out b).2 (.inr (.inl e)))).trans (HW7.out.mono (fun _ _ e => e.elim))
    · intro b hb
      rcases hb with e | e | e | e
      · exact .inl ((HT.out b).2 (.inl e))
      · exact .inl ((HT.out b).2 (.inr (.inl e)))
      · exact .inl ((HT.out b).2 (.inr (.inr e)))
      · exact .inr e.1
end Go.Proofs.YtmflpeklalgibaaGreat

namespace Go.Proofs.YtmflpeklalgibaaGreat
open Go.RowKit Go.Maps
theorem WB.at {W : World} {g m : Nat} {TB : Nat → Prop} {lv : List (Int × WV)} {ws : List (Int × WE)} {mv : Int} {x : WE} (h : WB W g m TB lv) (he : (lv.map fun p => (p.1, p.2.e)) = ws) (hx : getS ws mv = some x) (ho : okI mv) :
    ∃ (y : WV) (a : Option Addr) (c : Nat), getS lv mv = some y ∧ y.e = x ∧ y.v = .slice a y.its.length c ∧ Lb W TB y.v y.its ∧ y.its.length ≤ 16 ∧ y.mv = mv ∧
      ∀ W', Fr (fun _ => False) W W' → (Instr.lookup 91 (.map (some m)) (.int .i64 mv) true).run Tryz.prog W' = .ok (.tuple #[.agg #[.int .i64 y.mv, .int .i64 y.fr, .int .i64 y.tt, .slice a y.its.length c, .bool y.came], .bool true]) W' := by
  rw [← he, getS_map] at hx
  cases hg : getS lv mv with
  | none => rw [hg] at hx; cases hx
  | some y =>
    rw [hg] at hx
    injection hx with hx
    obtain ⟨q1, -, q3, q4⟩ := h.rows _ (getS_mem hg)
    obtain ⟨a, c, e⟩ := q3.1.sl
    refine ⟨y, a, c, rfl, hx, e, q3, q4, q1.symm, fun W' hf => ?_⟩
    have hl := (hf.mp h.mp (fun e => e)).look_ok (t := 91) kHI Tryz.underlying91 (z := .agg #[.int .i64 0, .int .i64 0, .int .i64 0, .slice none 0 0, .bool false]) (by kernel_rfl) ho
    rw [hg] at hl
    dsimp only [WV.enc] at hl
    dsimp only at e
    rw [e] at hl
    exact hl
set_option maxRecDepth 100000 in
set_option maxHeartbeats 8000000 in
theorem vCome (w : World) (g : Nat) (TS : Nat → Prop) (ws : List (Int × WE)) (mv : Int) (x : WE) (h : WS w g TS ws) (hws : ws.length ≤ 1000000) (ho : okI mv) (hx : getS ws mv = some x) (hc0 : x.came = false) :
    Calls Tryz.prog 97 #[.pointer (some ⟨g, 0, none⟩), .int .i64 mv] w fun e w' => ∃ v TS', e = .returned (.tuple #[v, .int .i64 0]) ∧ WS w' g TS' (putS ktI.lt ws mv { x with came := true }) ∧ Stp TS w w' TS' := by
  have HWS := Lib.hid h
  obtain ⟨m, TB, lv, hb, he, hT⟩ := h
  obtain ⟨⟨yo, yf, yt, yv, yi, yc⟩, a, c, hg, hye, hyv, hyl, hyn, hym, hlk⟩ := hb.at he hx ho
  dsimp only [WV.e] at hye hyv hyl hyn hym hlk
  subst hye
  dsimp only at hc0
  subst hc0
  subst hyv
  subst hym
  have hlen : lv.length ≤ 1000000 := by rw [← he, List.length_map] at hws; exact hws
  have hmd := Lib.hid (fun W (hf : Fr (fun _ => False) w W) => vmade W g m (hf.cell hb.cell (fun e => e)))
  obtain ⟨M, hM⟩ : ∃ M, yi.length = M := ⟨_, rfl⟩
  rw [hM] at hlk hyl hyn
  have HCL : Hid (∀ W, Il W (.slice a M c) yi → Calls Tryz.prog 54 #[.slice a M c] W fun e w' => ∃ v', e = .returned v' ∧ w'.ownsRow W.heap.size 45 2 v' yi.length (itCs yi) ∧ Fr (fun _ => False) W w') := Lib.hid (fun W hi => itClone W _ yi hi (by omega))
  have hst : Hid (∀ (W : World), Fr (fun _ => False) w W → ∃ w', (Instr.mapUpdate 91 (.map (some m)) (.int .i64 yo) (.agg #[.int .i64 yo, .int .i64 yf, .int .i64 yt, .slice a M c, .bool true])).run Tryz.prog W = .ok () w' ∧ Mp Tryz.prog w' 3 ktI WV.enc m (putS ktI.lt lv yo ⟨yo, yf, yt, .slice a M c, yi, true⟩) ∧ W.mapTurned w' m) := Lib.hid (fun W hf =>
    (hf.mp hb.mp (fun e => e)).store kHI Tryz.underlying91 (by omega) ho (⟨yo, yf, yt, .slice a M c, yi, true⟩ : WV))
  have HB := Lib.hid hb; have HT := Lib.hid hT; have HE := Lib.hid he; have HYL := Lib.hid hyl; have HYN := Lib.hid hyn; have HM := Lib.hid hM
  have hl1 := hlk w (Fr.refl _ _)
  have hc := hb.cell
  obtain ⟨n0, hn0⟩ : ∃ n0, w.heap.size = n0 := ⟨_, rfl⟩
  have HN0 := Lib.hid hn0
  clear hb hT he hyl hyn hM hlk hg hx hws hlen HWS
  go_enter Tryz.func97, Tryz.ntmps97
  go_wp2_with (go_at_call 115; refine (hmd.out _ (Fr.refl _ _)).mono ?_; rintro e w1 ⟨rfl, rfl⟩)
  refine wp_region_still_tail 6 (by kernel_rfl) (by kernel_rfl) ?_
  simp only [List.take_succ_cons, List.take_zero, List.drop_succ_cons, List.drop_zero]
  (try rw [hn0])
  obtain ⟨W1, hW1⟩ : ∃ W1, w.alloc (.cells #[.int .i64 yo, .int .i64 yf, .int .i64 yt, .slice a M c, .bool true] 167) = W1 := ⟨_, rfl⟩
  rw [hW1]
  have hF0 : Fr (fun _ => False) w W1 := by
    rw [← hW1]
    exact (Fr.refl _ w).alloc _
  have hB0 : W1.heap[n0]? = some (.cells #[.int .i64 yo, .int .i64 yf, .int .i64 yt, .slice a M c, .bool true] 167) := by
    rw [← hW1]
    exact heap_at hn0.symm _
  have hF : Fr (fun _ => False) w W1.drew := hF0.drew
  have hB3 : W1.drew.heap[n0]? = some (.cells #[.int .i64 yo, .int .i64 yf, .int .i64 yt, .slice a M c, .bool true] 167) := hB0
  change wpStill _ _ W1.drew (fun a' => wpList _ _ _ _ a' W1.drew) _ _
  generalize W1.drew = V at hF hB3 ⊢
  clear hW1 hF0 hB0 hl1 hc
  obtain ⟨w5, hst5, hm5, ht5⟩ := hst.out V hF
  have cg := hF.cell HB.out.cell (fun e => e)
  have d0 := cell_obj hB3 0 (.int .i64 yo) rfl
  have d1 := cell_obj hB3 1 (.int .i64 yf) rfl
  have d2 := cell_obj hB3 2 (.int .i64 yt) rfl
  have d3 := cell_obj hB3 3 (.slice a M c) rfl
  have d4 := cell_obj hB3 4 (.bool true) rfl
  have hbp := (HB.out.keep hF (fun _ _ e => e)).put (TB' := TB) (x := ⟨yo, yf, yt, .slice a M c, yi, true⟩) hm5 ht5 (fun _ e => e) ho (HYL.out.keep hF (fun _ _ e => e)) (by rw [HM.out]; exact HYN.out) (fun b hb => ⟨Nat.lt_of_lt_of_le (HB.out.ltb b hb) hF.size, fun e => HB.out.ng.1 (e ▸ hb), fun e => HB.out.nm (e ▸ hb)⟩)
  have hmn : m < n0 := by rw [← HN0.out]; exact HB.out.lt m (.inr (.inl rfl))
  have hF5 : Fr (fun b => b = m) V w5 := Fr.turned (S := fun b => b = m) ht5 rfl
  have e3 := cell_obj (hF5.at_ hB3 (by omega)) 3 (.slice a M c) rfl
  have hI5 : Il w5 (.slice a M c) yi := (HYL.out.keep hF (fun _ _ e => e)).1.keep hF5 (fun hn b hb e => by have e : b = m := e; subst e; exact HB.out.nm (HYL.out.2 hn b hb))
  have HF := Lib.hid hF; have HBP := Lib.hid hbp; have HF5 := Lib.hid hF5; have HI5 := Lib.hid hI5
  clear hF hB3 hm5 ht5 hbp hF5 hI5 hmn
  repeat still_step
  refine wpStill_nil ?_
  go_wp2_with (go_at_call 54; refine (HCL.out _ HI5.out).mono ?_; rintro e w7 ⟨v7, rfl, -, hf7⟩; have HF7 := Lib.hid hf7; clear hf7)
  go_returns
  refine ⟨_, TS, rfl, ⟨m, TB, _, HBP.out.keep HF7.out (fun _ _ e => e), ?_, HT.out⟩, ?_, fun b hb => .inl hb⟩
  · have := putS_map (f := WV.e) ktI.lt lv yo ⟨yo, yf, yt, .slice a M c, yi, true⟩
    rw [HE.out] at this
    exact this.symm
  · exact ((HF.out.mono (fun _ _ e => e.elim)).trans' HF5.out (fun b _ e => (HT.out b).2 (.inr (.inl e)))).trans (HF7.out.mono (fun _ _ e => e.elim))
set_option maxRecDepth 100000 in
set_option maxHeartbeats 8000000 in
theorem vMove (w : World) (g : Nat) (TS : Nat → Prop) (ws : List (Int × WE)) (mv : Int) (x : WE) (h : WS w g TS ws) (ho : okI mv) (hx : getS ws mv = some x) :
    Calls Tryz.prog 117 #[.pointer (some ⟨g, 0, none⟩), .int .i64 mv] w fun e w' => ∃ v a c, v = .slice a x.its.length c ∧ e = .returned (.tuple #[.agg #[.int .i64 x.mv, .int .i64 x.fr, .int .i64 x.tt, v, .bool x.came], .bool true]) ∧ Il w' v x.its ∧ (∀ b, v.ownBlock = some b → w.heap.size ≤ b ∧ b < w'.heap.size) ∧ Fr (fun _ => False) w w' := by
  obtain ⟨m, TB, lv, hb, he, hT⟩ := h
  obtain ⟨⟨yo, yf, yt, yv, yi, yc⟩, a, c, hg, hye, hyv, hyl, hyn, hym, hlk⟩ := hb.at he hx ho
  dsimp only [WV.e] at hye hyv hyl hyn hym hlk
  subst hye
  subst hyv
  subst hym
  have hmd := Lib.hid (fun W (hf : Fr (fun _ => False) w W) => vmade W g m (hf.cell hb.cell (fun e => e)))
  obtain ⟨M, hM⟩ : ∃ M, yi.length = M := ⟨_, rfl⟩
  dsimp only
  rw [hM] at hlk hyl hyn ⊢
  have HCL : Hid (∀ W, Il W (.slice a M c) yi → Calls Tryz.prog 54 #[.slice a M c] W fun e w' => ∃ v', e = .returned v' ∧ w'.ownsRow W.heap.size 45 2 v' yi.length (itCs yi) ∧ Fr (fun _ => False) W w') := Lib.hid (fun W hi => itClone W _ yi hi (by omega))
  have HYL := Lib.hid hyl; have HM := Lib.hid hM
  have HO1 : Hid (∀ p ∈ yi, okS p.1 ∧ okI p.2) := Lib.hid (fun p hp => il_okm hyl.1 hp)
  obtain ⟨n0, hn0⟩ : ∃ n0, w.heap.size = n0 := ⟨_, rfl⟩
  have HN0 := Lib.hid hn0
  obtain ⟨W0, hW0⟩ : ∃ W0, w.alloc (.cells #[.int .i64 0, .int .i64 0, .int .i64 0, .slice none 0 0, .bool false] 167) = W0 := ⟨_, rfl⟩
  have hF0 : Fr (fun _ => False) w W0 := by rw [← hW0]; exact (Fr.refl _ w).alloc _
  have hB0 : W0.heap[n0]? = some (.cells #[.int .i64 0, .int .i64 0, .int .i64 0, .slice none 0 0, .bool false] 167) := by rw [← hW0]; exact heap_at hn0.symm _
  have hz0 : W0.heap.size = n0 + 1 := by rw [← hW0, ← hn0]; simp
  obtain ⟨W1, hW1⟩ : ∃ W1, W0.alloc (.cells #[.int .i64 yo, .int .i64 yf, .int .i64 yt, .slice a M c, .bool yc] 167) = W1 := ⟨_, rfl⟩
  have hF1 : Fr (fun _ => False) W0 W1 := by rw [← hW1]; exact (Fr.refl _ W0).alloc _
  have hB1 : W1.heap[n0 + 1]? = some (.cells #[.int .i64 yo, .int .i64 yf, .int .i64 yt, .slice a M c, .bool yc] 167) := by rw [← hW1]; exact heap_at hz0.symm _
  have hB2 := hF1.at_ hB0 (fun e => e)
  have hc := hF0.cell hb.cell (fun e => e)
  have hmd0 := Lib.hid (hmd.out W0 hF0)
  have hl1 := hlk W0 hF0
  have HF1 := Lib.hid (hF0.trans hF1); have HB1 := Lib.hid hB1; have HB2 := Lib.hid hB2
  have hI1 : Il W1 (.slice a M c) yi := hyl.1.keep (hF0.trans hF1) (fun _ _ _ e => e)
  have HI1 := Lib.hid hI1
  have HZ0 := Lib.hid hz0
  have x3 := cell_obj hB1 3 (.slice a M c) rfl
  clear hb hT he hyl hyn hM hlk hg hx hF0 hB0 hF1 hB1 hB2 hI1
  go_enter Tryz.func117, Tryz.ntmps117
  (try rw [hW0]); (try rw [hn0])
  have hfin : Hid (∀ (W : World) (u : Value), Fr (fun _ => False) W1 W → ∃ W', (((((W.setCell ⟨n0 + 1, 3, none⟩ u).setCell ⟨n0, 0, none⟩ (.int .i64 yo)).setCell ⟨n0, 1, none⟩ (.int .i64 yf)).setCell ⟨n0, 2, none⟩ (.int .i64 yt)).setCell ⟨n0, 3, none⟩ u).setCell ⟨n0, 4, none⟩ (.bool yc) = W' ∧ W'.cell? ⟨n0, 0, none⟩ = some (.int .i64 yo) ∧ W'.cell? ⟨n0, 1, none⟩ = some (.int .i64 yf) ∧ W'.cell? ⟨n0, 2, none⟩ = some (.int .i64 yt) ∧ W'.cell? ⟨n0, 3, none⟩ = some u ∧ W'.cell? ⟨n0, 4, none⟩ = some (.bool yc) ∧ Fr (fun b => b = n0 ∨ b = n0 + 1) W W') := Lib.hid (fun W u hf => by
    have f0 : Fr (fun b => b = n0 ∨ b = n0 + 1) W _ := (Fr.refl (fun x => x = n0 ∨ x = n0 + 1) W).setCell (p := ⟨n0 + 1, 3, none⟩) (fun _ => .inr rfl) u
    have g0 : Fr (fun b => b = n0 + 1) W _ := (Fr.refl (fun x => x = n0 + 1) W).setCell (p := ⟨n0 + 1, 3, none⟩) (fun _ => rfl) u
    have h0 := g0.at_ (hf.at_ HB2.out (fun e => e)) (by omega)
    have h4 := obj_set (obj_set (obj_set (obj_set (obj_set h0 0 (.int .i64 yo)) 1 (.int .i64 yf)) 2 (.int .i64 yt)) 3 u) 4 (.bool yc)
    exact ⟨_, rfl, cell_obj h4 0 _ rfl, cell_obj h4 1 _ rfl, cell_obj h4 2 _ rfl, cell_obj h4 3 _ rfl, cell_obj h4 4 _ rfl, ((((f0.setCell (p := ⟨n0, 0, none⟩) (fun _ => .inl rfl) _).setCell (p := ⟨n0, 1, none⟩) (fun _ => .inl rfl) _).setCell (p := ⟨n0, 2, none⟩) (fun _ => .inl rfl) _).setCell (p := ⟨n0, 3, none⟩) (fun _ => .inl rfl) _).setCell (p := ⟨n0, 4, none⟩) (fun _ => .inl rfl) _⟩)
  go_wp2_with (first
    | (go_at_call 115; (try rw [hW0]); refine hmd0.out.mono ?_; rintro e w1 ⟨rfl, rfl⟩)
    | (go_at_call 54; (try rw [hW0]); (try rw [hW1]); refine (HCL.out _ HI1.out).mono ?_; rintro e w7 ⟨v7, rfl, ho7, hf7⟩; have hi7 := Il.own ho7 HO1.out; obtain ⟨b7, d7, rfl⟩ := hi7.1.sl; rw [HM.out] at hi7 ⊢; have HI7 := Lib.hid hi7; have HF7 := Lib.hid hf7; have k1 := hf7.at_ HB1.out (fun e => e); have k2 := hf7.at_ HB2.out (fun e => e); have y0 := cell_obj k1 0 (.int .i64 yo) rfl; have y1 := cell_obj k1 1 (.int .i64 yf) rfl; have y2 := cell_obj k1 2 (.int .i64 yt) rfl; have y3 := cell_obj k1 3 (.slice a M c) rfl; have y4 := cell_obj k1 4 (.bool yc) rfl; have u0 := cell_obj k2 0 (.int .i64 0) rfl; have u1 := cell_obj k2 1 (.int .i64 0) rfl; have u2 := cell_obj k2 2 (.int .i64 0) rfl; have u3 := cell_obj k2 3 (.slice none 0 0) rfl; have u4 := cell_obj k2 4 (.bool false) rfl; have yz := obj_frozen k1 3; have z0 := obj_frozen k2 0; have z1 := obj_frozen k2 1; have z2 := obj_frozen k2 2; have z3 := obj_frozen k2 3; have z4 := obj_frozen k2 4; clear ho7 hf7 hi7 k1 k2))
  obtain ⟨W', hW', e0, e1, e2, e3, e4, hf⟩ := hfin.out w7 (.slice b7 M d7) HF7.out
  (try rw [hW'])
  refine bodyPost_ret (v := .tuple #[.agg #[.int .i64 yo, .int .i64 yf, .int .i64 yt, .slice b7 M d7, .bool yc], .bool true]) (by simp [results, Tryz.results117, go_sem, e0, e1, e2, e3, e4]) rfl ?_
  have hn := HN0.out
  have s1 := HF1.out.size
  have hzz : n0 + 1 < W1.heap.size := (Array.getElem?_eq_some_iff.1 HB1.out).1
  have s7 := HF7.out.size
  refine ⟨.slice b7 M d7, b7, d7, rfl, rfl, HI7.out.1.keep hf (fun _ b hb e => by have := (HI7.out.2 b hb).1; omega), fun b hb => ⟨by have := (HI7.out.2 b hb).1; omega, Nat.lt_of_lt_of_le (HI7.out.2 b hb).2 hf.size⟩, ?_⟩
  exact (HF1.out.trans HF7.out).trans' hf (fun b hb e => by omega)
set_option maxRecDepth 100000 in
set_option maxHeartbeats 8000000 in
theorem vForget (w : World) (g : Nat) (TS : Nat → Prop) (ws : List (Int × WE)) (mv : Int) (x : WE) (h : WS w g TS ws) (ho : okI mv) (hx : getS ws mv = some x) (hc0 : x.came = true) :
    Calls Tryz.prog 98 #[.pointer (some ⟨g, 0, none⟩), .int .i64 mv] w fun e w' => ∃ TS', e = .returned (.int .i64 0) ∧ WS w' g TS' (delS ws mv) ∧ Stp TS w w' TS' := by
  have hMv := Lib.hid (vMove w g TS ws mv x h ho hx)
  obtain ⟨m, TB, lv, hb, he, hT⟩ := h
  have HB := Lib.hid hb; have HT := Lib.hid hT; have HE := Lib.hid he
  have hdl : Hid (∀ W ty, Fr (fun _ => False) w W → ∃ w', (Builtin.delete_ #[91, 3] ty #[.map (some m), .int .i64 mv]).run Tryz.prog W = .ok (.tuple #[]) w' ∧ Mp Tryz.prog w' 3 ktI WV.enc m (delS lv mv) ∧ W.mapTurned w' m) := Lib.hid (fun W ty hW =>
    (hW.mp HB.out.mp (fun h => h)).drop kHI Tryz.underlying91 ho ty)
  obtain ⟨xm, xf, xt, xi, xc⟩ := x
  dsimp only at hc0 hMv
  subst hc0
  clear hb hT he hx
  obtain ⟨M, hM⟩ : ∃ M, xi.length = M := ⟨_, rfl⟩
  rw [hM] at hMv
  have hfin : ∀ W w8, Fr (fun _ => False) w W → Mp Tryz.prog w8 3 ktI WV.enc m (delS lv mv) → W.mapTurned w8 m → ∃ TS', Ending.returned (.int .i64 0) = Ending.returned (.int .i64 0) ∧ WS w8 g TS' (delS ws mv) ∧ Stp TS w w8 TS' := fun W w8 hf hm ht => by
    refine ⟨TS, rfl, ⟨m, TB, _, (HB.out.keep hf (fun _ _ e => e)).del hm ht, ?_, HT.out⟩, ?_, fun b hb => .inl hb⟩
    · have := delS_map (f := WV.e) lv mv
      rw [HE.out] at this
      exact this.symm
    · exact (hf.mono (fun _ _ e => e.elim)).trans' (Fr.turned (S := fun b => b = m) ht rfl) (fun b _ e => (HT.out b).2 (.inr (.inl e)))
  have HFIN := Lib.hid hfin
  clear hfin hM
  go_enter Tryz.func98, Tryz.ntmps98
  go_wp2_with (first
    | (go_at_call 117; refine hMv.out.mono ?_; rintro e w1 ⟨v, a, c, rfl, rfl, -, -, hf⟩; have HF := Lib.hid hf; have hc1 := (hf.alloc (.cells #[.int .i64 xm, .int .i64 xf, .int .i64 xt, .slice a M c, .bool true] 167)).cell HB.out.cell (fun e => e); have hx8 := hdl.out (w1.alloc (.cells #[.int .i64 xm, .int .i64 xf, .int .i64 xt, .slice a M c, .bool true] 167)) 0 (hf.alloc _); obtain ⟨w8, hs8, hm8, ht8⟩ := hx8; have HM8 := Lib.hid hm8; have HT8 := Lib.hid ht8; clear hf hm8 ht8)
    | (go_at_call 115; refine (vmade _ g m hc1).mono ?_; rintro e w2 ⟨rfl, rfl⟩))
  go_ret
  obtain ⟨TS2, -, hq⟩ := HFIN.out _ _ (HF.out.alloc _) HM8.out HT8.out
  exact ⟨TS2, rfl, hq⟩
end Go.Proofs.YtmflpeklalgibaaGreat

namespace Go.Proofs.YtmflpeklalgibaaGreat
open Go.RowKit Go.Maps
section
variable {W W' : World} {r gs gm : Nat} {T0 T1 T0' T1' TS : Nat → Prop} {vk : Value} {me n : Int} {A : Stk} {le : Hes} {ws : List (Int × WE)} {S : List (Value × Its)}
theorem RB.stp0 (h : RB W r gs gm T0 T1 vk me n A le ws S) (hs : Stp T0 W W' T0') : Stp (RB.bl r T0 T1 vk) W W' (RB.bl r T0' T1 vk) := by
  refine ⟨hs.1.mono (fun b _ e => .inr (.inl e)), fun b hb => ?_⟩
  rcases hb with e | e | e | e
  · exact .inl (.inl e)
  · exact (hs.2 b e).imp (fun e => .inr (.inl e)) id
  · exact .inl (.inr (.inr (.inl e)))
  · exact .inl (.inr (.inr (.inr e)))
theorem RB.stp1 (h : RB W r gs gm T0 T1 vk me n A le ws S) (hs : Stp T1 W W' T1') : Stp (RB.bl r T0 T1 vk) W W' (RB.bl r T0 T1' vk) := by
  refine ⟨hs.1.mono (fun b _ e => .inr (.inr (.inl e))), fun b hb => ?_⟩
  rcases hb with e | e | e | e
  · exact .inl (.inl e)
  · exact .inl (.inr (.inl e))
  · exact (hs.2 b e).imp (fun e => .inr (.inr (.inl e))) id
  · exact .inl (.inr (.inr (.inr e)))
theorem RB.rg (h : RB W r gs gm T0 T1 vk me n A le ws S) : RG W r (RB.bl r T0 T1 vk) me n A le ws S := ⟨gs, gm, T0, T1, vk, h, fun _ => Iff.rfl⟩
theorem RG.rb (h : RG W r TS me n A le ws S) : ∃ gs gm T0 T1 vk, RB W r gs gm T0 T1 vk me n A le ws S ∧ TS = RB.bl r T0 T1 vk := by
  obtain ⟨gs, gm, T0, T1, vk, h, e⟩ := h
  exact ⟨gs, gm, T0, T1, vk, h, funext fun b => propext (e b)⟩
theorem RG.lt (h : RG W r TS me n A le ws S) : ∀ b, TS b → b < W.heap.size := by
  obtain ⟨gs, gm, T0, T1, vk, h2, rfl⟩ := h.rb
  exact h2.lt
theorem RG.keep {K : Nat → Prop} (h : RG W r TS me n A le ws S) (hf : Fr K W W') (hK : ∀ b, TS b → ¬ K b) (hS : ∀ p ∈ S, p.2 ≠ [] → ∀ b, p.1.ownBlock = some b → ¬ K b) : RG W' r TS me n A le ws S := by
  obtain ⟨gs, gm, T0, T1, vk, h2, rfl⟩ := h.rb
  exact (h2.keep hf hK hS).rg
end
/-- What send leaves. -/
structure SndP (w : World) (r : Nat) (TS : Nat → Prop) (me n : Int) (le : Hes) (S : List (Value × Its)) (al : Value) (ai : Its) (R : (PEs × Int) × RSt) (e : Ending) (w' : World) : Prop where
  ex : ∃ v TS' L, e = .returned (.tuple #[v, .int .i64 R.1.2]) ∧ RG w' r TS' me n R.2.A le R.2.ws S ∧ Pst w' w.heap.size v L TS' ∧ L.map nfP = R.1.1 ∧ Stp TS w w' TS' ∧ ∀ p ∈ L, ∀ b, p.2.own b → ai ≠ [] ∧ al.ownBlock = some b
theorem delS_put {κ ν : Type} [DecidableEq κ] {lt : κ → κ → Bool} {l : List (κ × ν)} {x : κ} {v : ν} (h : getS l x = none) : delS (putS lt l x v) x = l := by
  have hd : delS l x = l := by
    unfold delS
    rw [List.filter_eq_self]
    intro p hp
    by_cases e : p.1 = x
    · exfalso
      have : ∀ l : List (κ × ν), (∃ p ∈ l, p.1 = x) → (getS l x).isSome = true := fun l => by
        induction l with
        | nil => rintro ⟨p, hp, -⟩; cases hp
        | cons q r ih =>
          rintro ⟨p, hp, e⟩
          simp only [getS]
          split
          · rfl
          · rename_i hne
            rcases List.mem_cons.1 hp with rfl | hp
            · exact absurd e hne
            · exact ih ⟨p, hp, e⟩
      have := this l ⟨p, hp, e⟩
      rw [h] at this
      cases this
    · simpa using e
  unfold putS
  rw [hd]
  have key : ∀ l : List (κ × ν), delS l x = l → delS (insS lt (x, v) l) x = l := fun l => by
    induction l with
    | nil => intro _; simp [insS, delS]
    | cons q r ih =>
      intro hl
      unfold delS at hl
      have hq : (!decide (q.1 = x)) = true := (List.filter_eq_self.1 hl) q (by simp)
      have hr : delS r x = r := by unfold delS; rw [List.filter_eq_self]; intro p hp; exact (List.filter_eq_self.1 hl) p (by simp [hp])
      simp only [insS]
      split
      · unfold delS
        rw [List.filter_cons, if_neg (by simp), List.filter_cons, if_pos hq]
        exact congrArg _ hr
      · unfold delS
        rw [List.filter_cons, if_pos hq]
        exact congrArg _ (ih hr)
  exact key l hd
theorem goF_yes {ws : List (Int × WE)} {mv fr tt : Int} {L : Its} (h : (goF ws mv fr tt L).1 = 0) : (goF ws mv fr tt L).2 = putS ktI.lt ws mv ⟨mv, fr, tt, L, false⟩ ∧ getS ws mv = none ∧ ws.length < 256 := by
  unfold goF at h ⊢
  split at h
  · cases h
  split at h
  · cases h
  split at h
  · cases h
  split at h
  · cases h
  rename_i h1 h2 h3 h4
  rw [if_neg h1, if_neg h2, if_neg h3, if_neg h4]
  exact ⟨rfl, by simpa using h3, by omega⟩
theorem getS_put {κ ν : Type} [DecidableEq κ] {lt : κ → κ → Bool} {l : List (κ × ν)} {x : κ} {v : ν} : getS (putS lt l x v) x = some v := by
  unfold putS
  have key : ∀ l : List (κ × ν), (∀ p ∈ l, p.1 ≠ x) → getS (insS lt (x, v) l) x = some v := fun l => by
    induction l with
    | nil => intro _; simp [insS, getS]
    | cons q r ih =>
      intro hl
      simp only [insS]
      split
      · simp [getS]
      · simp only [getS]
        rw [if_neg (hl q (by simp))]
        exact ih (fun p hp => hl p (by simp [hp]))
  exact key _ (fun p hp => by unfold delS at hp; simpa using (List.mem_filter.1 hp).2)
theorem putS_put {κ ν : Type} [DecidableEq κ] {lt : κ → κ → Bool} {l : List (κ × ν)} {x : κ} {v u : ν} (h : getS l x = none) : delS (putS lt (putS lt l x v) x u) x = l := by
  unfold putS
  have := delS_put (lt := lt) (v := v) h
  unfold putS at this
  rw [this]
  have := delS_put (lt := lt) (v := u) h
  unfold putS at this
  rw [show delS l x = l by
    have q := delS_put (lt := lt) (v := v) h
    unfold putS at q
    have q2 : ∀ a b : List (κ × ν), delS (delS a x) x = delS a x := fun a _ => by unfold delS; rw [List.filter_filter]; simp
    have q3 := q2 (insS lt (x, v) (delS l x)) l
    rw [q] at q3
    exact q3] at this
  exact this
theorem putS_len {κ ν : Type} [DecidableEq κ] {lt : κ → κ → Bool} {l : List (κ × ν)} {x : κ} {v : ν} : (putS lt l x v).length ≤ l.length + 1 := by
  have h1 : ∀ l : List (κ × ν), (insS lt (x, v) l).length = l.length + 1 := fun l => by
    induction l with
    | nil => rfl
    | cons q r ih => simp only [insS]; split <;> simp [*]
  unfold putS
  rw [h1]
  have : (delS l x).length ≤ l.length := List.length_filter_le _ _
  omega
/-- What stands between two steps: the region, boxes and a list that are none of its own. -/
structure SnI (w W : World) (r gs gm : Nat) (TS T0 T1 : Nat → Prop) (vk : Value) (me n : Int) (A : Stk) (le : Hes) (ws : List (Int × WE)) (S : List (Value × Its)) (B : List (Nat × Array Value × TypeId)) (Ls : List (Value × Its)) : Prop where
  rb : RB W r gs gm T0 T1 vk me n A le ws S
  st : Stp TS w W (RB.bl r T0 T1 vk)
  bx : ∀ p ∈ B, W.heap[p.1]? = some (.cells p.2.1 p.2.2) ∧ w.heap.size ≤ p.1 ∧ ¬ RB.bl r T0 T1 vk p.1
  il : ∀ p ∈ Ls, Il W p.1 p.2
  nv : ∀ p ∈ Ls, p.2 ≠ [] → ∀ b, p.1.ownBlock = some b → ¬ RB.bl r T0 T1 vk b ∧ b < w.heap.size
  lo : ∀ p ∈ S, p.2 ≠ [] → ∀ b, p.1.ownBlock = some b → b < w.heap.size
section
variable {w W W' : World} {r gs gm : Nat} {TS T0 T1 T0' T1' : Nat → Prop} {vk : Value} {me n : Int} {A A' : Stk} {le le' : Hes} {ws ws' : List (Int × WE)} {S : List (Value × Its)} {B : List (Nat × Array Value × TypeId)} {Ls : List (Value × Its)}
theorem SnI.keepK {K : Nat → Prop} (h : SnI w W r gs gm TS T0 T1 vk me n A le ws S B Ls) (hf : Fr K W W') (hK : ∀ b, K b → w.heap.size ≤ b ∧ ¬ RB.bl r T0 T1 vk b ∧ ∀ p ∈ B, b ≠ p.1) : SnI w W' r gs gm TS T0 T1 vk me n A le ws S B Ls :=
  ⟨h.rb.keep hf (fun b hb e => (hK b e).2.1 hb) (fun p hp hn b hb e => by have := h.lo p hp hn b hb; have := (hK b e).1; omega),
    ⟨h.st.1.trans' hf (fun b hb e => by have := (hK b e).1; omega), fun b hb => h.st.2 b hb⟩,
    fun p hp => ⟨hf.at_ (h.bx p hp).1 (fun e => (hK p.1 e).2.2 p hp rfl), (h.bx p hp).2⟩, fun p hp => (h.il p hp).keep hf (fun hn b hb e => by have := (h.nv p hp hn b hb).2; have := (hK b e).1; omega), h.nv, h.lo⟩
theorem SnI.keep0 (h : SnI w W r gs gm TS T0 T1 vk me n A le ws S B Ls) (hf : Fr (fun _ => False) W W') : SnI w W' r gs gm TS T0 T1 vk me n A le ws S B Ls :=
  h.keepK hf (fun _ e => e.elim)
theorem SnI.step {gs' gm' : Nat} {vk' : Value} (h : SnI w W r gs gm TS T0 T1 vk me n A le ws S B Ls) (hs : Stp (RB.bl r T0 T1 vk) W W' (RB.bl r T0' T1' vk')) (hr : RB W' r gs' gm' T0' T1' vk' me n A' le' ws' S) : SnI w W' r gs' gm' TS T0' T1' vk' me n A' le' ws' S B Ls :=
  ⟨hr, h.st.trans hs, fun p hp => ⟨hs.1.at_ (h.bx p hp).1 (h.bx p hp).2.2, (h.bx p hp).2.1, fun e => (hs.2 p.1 e).elim (h.bx p hp).2.2 (fun e => by have := (Array.getElem?_eq_some_iff.1 (h.bx p hp).1).1; omega)⟩, fun p hp => (h.il p hp).keep hs.1 (fun hn b hb => (h.nv p hp hn b hb).1),
    fun p hp hn b hb => ⟨fun e => (hs.2 b e).elim (h.nv p hp hn b hb).1 (fun e => by have := (h.il p hp).lt hn b hb; omega), (h.nv p hp hn b hb).2⟩, h.lo⟩
theorem SnI.moves (h : SnI w W r gs gm TS T0 T1 vk me n A le ws S B Ls) (hm : WS W' gm T1' ws') (hs : Stp T1 W W' T1') : SnI w W' r gs gm TS T0 T1' vk me n A le ws' S B Ls :=
  h.step (h.rb.stp1 hs) (h.rb.moves hm hs)
theorem SnI.shelf (h : SnI w W r gs gm TS T0 T1 vk me n A le ws S B Ls) (hm : SHE W' gs T0' A' le') (hk : ShOk A' le') (hs : Stp T0 W W' T0') : SnI w W' r gs gm TS T0' T1 vk me n A' le' ws S B Ls :=
  h.step (h.rb.stp0 hs) (h.rb.shelf hm hk hs)
/-- A cell of the second box is another. -/
theorem SnI.set1 {b0 b1 : Nat} {c0 c1 : Array Value} {t0 t1 : TypeId} (h : SnI w W r gs gm TS T0 T1 vk me n A le ws S [(b0, c0, t0), (b1, c1, t1)] Ls) (hne : b0 ≠ b1) (j : Nat) (u : Value) : SnI w (W.setCell ⟨b1, j, none⟩ u) r gs gm TS T0 T1 vk me n A le ws S [(b0, c0, t0), (b1, c1.setIfInBounds j u, t1)] Ls := by
  have h0 := h.bx (b0, c0, t0) (by simp)
  have h1 := h.bx (b1, c1, t1) (by simp)
  have hf : Fr (fun b => b = b1) W (W.setCell ⟨b1, j, none⟩ u) := (Fr.refl (fun b => b = b1) W).setCell (p := ⟨b1, j, none⟩) (fun _ => rfl) u
  have h' : SnI w W r gs gm TS T0 T1 vk me n A le ws S [(b0, c0, t0)] Ls := ⟨h.rb, h.st, fun p hp => h.bx p (by rw [List.mem_singleton.1 hp]; simp), h.il, h.nv, h.lo⟩
  have h2 := h'.keepK hf (fun b hb => ⟨by have hb : b = b1 := hb; have := h1.2.1; dsimp only at this; omega, by have hb : b = b1 := hb; rw [hb]; exact h1.2.2, fun p hp => by rw [List.mem_singleton.1 hp]; have hb : b = b1 := hb; rw [hb]; exact fun e => hne e.symm⟩)
  refine ⟨h2.rb, h2.st, fun p hp => ?_, h2.il, h2.nv, h2.lo⟩
  rcases List.mem_cons.1 hp with rfl | hp
  · exact h2.bx _ (by simp)
  · rw [List.mem_singleton.1 hp]
    exact ⟨obj_set h1.1 j u, h1.2⟩
theorem SnI.il0 {v : Value} {L : Its} (h : SnI w W r gs gm TS T0 T1 vk me n A le ws S B ((v, L) :: Ls)) : Il W v L := h.il _ (.head _)
theorem SnI.nv0 {v : Value} {L : Its} (h : SnI w W r gs gm TS T0 T1 vk me n A le ws S B ((v, L) :: Ls)) (hn : L ≠ []) (b : Nat) (hb : v.ownBlock = some b) : ¬ RB.bl r T0 T1 vk b ∧ b < w.heap.size := h.nv _ (.head _) hn b hb
theorem SnI.cells (h : SnI w W r gs gm TS T0 T1 vk me n A le ws S B Ls) : W.cell? ⟨r, 0, none⟩ = some (.int .i64 me) ∧ W.cell? ⟨r, 2, none⟩ = some (.pointer (some ⟨gs, 0, none⟩)) ∧ W.cell? ⟨r, 3, none⟩ = some (.pointer (some ⟨gm, 0, none⟩)) :=
  ⟨h.rb.cells.1, h.rb.cells.2.2.1, h.rb.cells.2.2.2.1⟩
end
theorem doS_no10 {A : Stk} {L : Its} (h : (doH A 10 L).1 ≠ 0) : (doH A 10 L).2 = A := doS_no (k := 10) h
set_option maxRecDepth 100000 in
set_option maxHeartbeats 16000000 in
theorem gSend (w : World) (r : Nat) (TS : Nat → Prop) (me n : Int) (A : Stk) (le : Hes) (ws : List (Int × WE)) (S : List (Value × Its)) (a : AV) (h : RG w r TS me n A le ws S) (hws : ws.length ≤ 256) (ha : AOk w a) (hat : a.its ≠ [] → ∀ b, a.l.ownBlock = some b → ¬ TS b) (hn : 1 ≤ a.n ∧ a.n ≤ 4294967296) (hc : 0 ≤ a.c ∧ a.c < 64) :
    Calls Tryz.prog 63 #[.pointer (some ⟨r, 0, none⟩), .agg a.cs] w (SndP w r TS me n le S a.l a.its (sendR me ⟨A, le, ws, S.map (·.2)⟩ a)) := by
  have hrb := h.rb
  clear h
  obtain ⟨gs, gm, T0, T1, vk, h, rfl⟩ := hrb
  obtain ⟨R, hR⟩ : ∃ R, sendR me ⟨A, le, ws, S.map (·.2)⟩ a = R := ⟨_, rfl⟩
  have hRd : R = sendR me ⟨A, le, ws, S.map (·.2)⟩ a := hR.symm
  rw [hR]
  unfold sendR at hRd
  dsimp only at hRd
  obtain ⟨c, nn, k, o, rr, t, mm, g, al, ai⟩ := a
  dsimp only at hRd hn hc hat
  dsimp only [AV.cs]
  obtain ⟨pa, pc, rfl⟩ : ∃ a c, al = .slice a ai.length c := ha.l.sl
  obtain ⟨M, hM⟩ : ∃ M, ai.length = M := ⟨_, rfl⟩
  rw [hM] at ha hat ⊢
  have hw1 : IntKind.i64.wrap (64 * nn) = 64 * nn := IntWalk.i64_in _ ⟨by omega, by omega⟩
  have hw2 : IntKind.i64.wrap (64 * nn + c) = 64 * nn + c := IntWalk.i64_in _ ⟨by omega, by omega⟩
  obtain ⟨MV, hMV⟩ : ∃ x, 64 * nn + c = x := ⟨_, rfl⟩
  have hMVo : okI MV := by rw [← hMV]; exact ⟨by omega, by omega⟩
  have hw3 : wrap64 (64 * nn + c) = MV := by rw [← hMV]; unfold wrap64; omega
  have hw4 : IntKind.i64.wrap (64 * nn + c) = MV := hw2.trans hMV
  clear hw2
  rw [hMV] at hRd
  have HMV := Lib.hid hMV
  obtain ⟨n0, hn0⟩ : ∃ n0, w.heap.size = n0 := ⟨_, rfl⟩
  have HN0 := Lib.hid hn0
  obtain ⟨W0, hW0⟩ : ∃ W0, w.alloc (.cells #[.int .i64 c, .int .i64 nn, .int .i64 k, .int .i64 o, .int .i64 rr, .int .i64 t, .int .i64 mm, vS g, .slice pa M pc] 32) = W0 := ⟨_, rfl⟩
  have hF0 : Fr (fun _ => False) w W0 := by rw [← hW0]; exact (Fr.refl _ w).alloc _
  have hB0 : W0.heap[n0]? = some (.cells #[.int .i64 c, .int .i64 nn, .int .i64 k, .int .i64 o, .int .i64 rr, .int .i64 t, .int .i64 mm, vS g, .slice pa M pc] 32) := by rw [← hW0]; exact heap_at hn0.symm _
  have hI0 : SnI w W0 r gs gm (RB.bl r T0 T1 vk) T0 T1 vk me n A le ws S [(n0, #[.int .i64 c, .int .i64 nn, .int .i64 k, .int .i64 o, .int .i64 rr, .int .i64 t, .int .i64 mm, vS g, .slice pa M pc], 32)] [(.slice pa M pc, ai)] :=
    ⟨h.keep0 hF0, Stp.refl hF0, fun p hp => by rw [List.mem_singleton.1 hp]; exact ⟨hB0, by dsimp only; omega, fun e => by have := h.lt _ e; dsimp only at this; omega⟩, fun p hp => by rw [List.mem_singleton.1 hp]; exact ha.l.keep hF0 (fun _ _ _ e => e), fun p hp hn b hb => by rw [List.mem_singleton.1 hp] at hn hb; exact ⟨hat hn b hb, ha.l.lt hn b hb⟩, fun p hp hn b hb => ((h.st p hp).2 hn b hb).1⟩
  have HAT2 := Lib.hid (fun (hn : ai ≠ []) b (hb : (Value.slice pa M pc).ownBlock = some b) => ha.l.lt hn b hb)
  obtain ⟨G, hG⟩ : ∃ G, goF ws MV me t ai = G := ⟨_, rfl⟩
  obtain ⟨D, hD⟩ : ∃ D, doH A 10 ai = D := ⟨_, rfl⟩
  rw [hG, hD] at hRd
  have HGo : Hid (∀ W T, WS W gm T ws → Il W (.slice pa M pc) ai → Calls Tryz.prog 96 #[.pointer (some ⟨gm, 0, none⟩), .int .i64 MV, .int .i64 me, .int .i64 t, .slice pa M pc] W fun e w' => ∃ TS', e = .returned (.int .i64 G.1) ∧ WS w' gm TS' G.2 ∧ Stp T W w' TS') := Lib.hid (fun W T hw hi => by
    have := vGo W gm T ws MV me t _ ai hw (by omega) hMVo hi
    rw [hG] at this; exact this)
  have HDo : Hid (∀ W T, SHE W gs T A le → Il W (.slice pa M pc) ai → Calls Tryz.prog 61 #[.pointer (some ⟨gs, 0, none⟩), .int .i64 10, .slice pa M pc] W fun e w' => ∃ TS', e = .returned (.int .i64 D.1) ∧ SHE w' gs TS' D.2 le ∧ Stp T W w' TS') := Lib.hid (fun W T hs hi => by
    have := eDo 10 _ ai hs h.ok hi
    rw [hD] at this; exact this)
  obtain ⟨c0, c2, c3⟩ := hI0.cells
  have x0 := cell_obj hB0 0 (.int .i64 c) rfl
  have x1 := cell_obj hB0 1 (.int .i64 nn) rfl
  have x5 := cell_obj hB0 5 (.int .i64 t) rfl
  have x8 := cell_obj hB0 8 (.slice pa M pc) rfl
  have HI0 := Lib.hid hI0; have HAO := Lib.hid ha; have HH := Lib.hid h; have HM := Lib.hid hM; have HAT := Lib.hid hat
  have HW0 := Lib.hid hW0
  clear h hI0 hB0 hat hF0 ha hn hc hMV hM
  by_cases hG0 : G.1 = 0
  rotate_left
  · rw [if_pos hG0] at hRd
    have q : (G.1 != 0) = true := by simpa using hG0
    have HG2 : Hid (G.2 = ws) := Lib.hid (by have := goF_no (ws := ws) (mv := MV) (fr := me) (L := ai) (by rw [hG]; exact hG0); rw [hG] at this; exact this)
    have HR := Lib.hid hRd
    obtain ⟨G1, hG1⟩ : ∃ x, G.1 = x := ⟨_, rfl⟩
    rw [hG1] at HGo q HR
    clear hRd hG0 hG hD hG1
    go_enter Tryz.func63, Tryz.ntmps63
    go_wp2_with fail
    (try rw [HW0.out])
    clear hW0
    refine wp_region_eff [(13, false), (14, true)] [] 12 (by kernel_rfl) rfl (by kernel_rfl) (by kernel_rfl) ?_
    apply Exists.intro
    refine ⟨?hh1, ?pu1, ?ef1⟩
    case hh1 =>
      intro X
      have c0 := FrW.cell (X.fr.cell c0 (fun e => e))
      have c3 := FrW.cell (X.fr.cell c3 (fun e => e))
      have x5 := FrW.cell (X.fr.cell x5 (fun e => e))
      have x8 := FrW.cell (X.fr.cell x8 (fun e => e))
      simp (config := { decide := true }) only [boxedF, efIdx, List.map_cons, List.map_nil, idleU, if_true, if_false, ite_true, ite_false]
      repeat (go_big_quiet_step (fail))
      exact wpQuiet_nil rfl
    case pu1 =>
      intro i' hi' o ho
      cases hi'
    simp only [efOps, List.filterMap_cons, List.filterMap_nil, List.getElem?_cons_succ, List.getElem?_cons_zero, Option.map_some]
    intro w1 hw1
    have HI1 := Lib.hid (HI0.out.keep0 hw1)
    clear hw1 c0 c2 c3 x0 x1 x5 x8
    go_wp2_with (go_at_call 96; refine (HGo.out _ _ HI1.out.rb.mv HI1.out.il0).mono ?_; rintro e w2 ⟨T2, rfl, h1, h2⟩; rw [HG2.out] at h1; have HI2 := Lib.hid (HI1.out.moves h1 h2); clear h1 h2)
    intro w3 hw3
    have HI3 := Lib.hid (HI2.out.keep0 hw3)
    clear hw3
    go_wp2_with fail
    refine ⟨Fr.refl _ _, ?_⟩
    intro w4 hw4
    have HI4 := Lib.hid (HI3.out.keep0 hw4)
    clear hw4
    go_wp2_with fail
    go_returns
    exact ⟨_, _, [], by rw [HR.out]; rfl, by rw [HR.out]; exact HI4.out.rb.rg, Pst.nil, by rw [HR.out]; rfl, HI4.out.st, fun p hp => (by cases hp)⟩
  rw [if_neg (by simpa using hG0)] at hRd
  obtain ⟨hGp, hGn, hGl⟩ := goF_yes (ws := ws) (mv := MV) (fr := me) (tt := t) (L := ai) (by rw [hG]; exact hG0)
  rw [hG] at hGp
  have qG : (G.1 != 0) = false := by simpa using hG0
  obtain ⟨G1, hG1⟩ : ∃ x, G.1 = x := ⟨_, rfl⟩
  rw [hG1] at HGo qG
  by_cases hD0 : D.1 = 0
  · rw [if_neg (by simpa using hD0)] at hRd
    have qD : (D.1 != 0) = false := by simpa using hD0
    have HR := Lib.hid hRd
    obtain ⟨D1, hD1⟩ : ∃ x, D.1 = x := ⟨_, rfl⟩
    have HD2 : Hid (ShOk D.2 le) := Lib.hid (by rw [← hD]; exact do_ok HH.out.ok)
    rw [hD1] at HDo qD
    clear hRd hD0 hG hD hG1 hD1 hG0 hGp hGn hGl
    go_enter Tryz.func63, Tryz.ntmps63
    go_wp2_with fail
    (try rw [HW0.out])
    clear hW0
    refine wp_region_eff [(13, false), (14, true)] [] 12 (by kernel_rfl) rfl (by kernel_rfl) (by kernel_rfl) ?_
    apply Exists.intro
    refine ⟨?hh2, ?pu2, ?ef2⟩
    case hh2 =>
      intro X
      have c0 := FrW.cell (X.fr.cell c0 (fun e => e))
      have c3 := FrW.cell (X.fr.cell c3 (fun e => e))
      have x5 := FrW.cell (X.fr.cell x5 (fun e => e))
      have x8 := FrW.cell (X.fr.cell x8 (fun e => e))
      simp (config := { decide := true }) only [boxedF, efIdx, List.map_cons, List.map_nil, idleU, if_true, if_false, ite_true, ite_false]
      repeat (go_big_quiet_step (fail))
      exact wpQuiet_nil rfl
    case pu2 =>
      intro i' hi' o ho
      cases hi'
    simp only [efOps, List.filterMap_cons, List.filterMap_nil, List.getElem?_cons_succ, List.getElem?_cons_zero, Option.map_some]
    intro w1 hw1
    have HI1 := Lib.hid (HI0.out.keep0 hw1)
    clear hw1 c0 c2 c3 x0 x1 x5 x8
    go_wp2_with (go_at_call 96; refine (HGo.out _ _ HI1.out.rb.mv HI1.out.il0).mono ?_; rintro e w2 ⟨T2, rfl, h1, h2⟩; have HI2 := Lib.hid (HI1.out.moves h1 h2); clear h1 h2)
    intro w3 hw3
    have HI3 := Lib.hid (HI2.out.keep0 hw3)
    clear hw3
    go_wp2_with fail
    refine ⟨Fr.refl _ _, ?_⟩
    intro w4 hw4
    have hI4 := HI3.out.keep0 hw4
    obtain ⟨c0, c2, c3⟩ := hI4.cells
    have x8 := cell_obj (hI4.bx _ (.head _)).1 8 (.slice pa M pc) rfl
    have HI4 := Lib.hid hI4
    clear hw4 hI4
    go_wp2_with fail
    refine wp_region_eff [(6, false), (7, true)] [] 12 (by kernel_rfl) rfl (by kernel_rfl) (by kernel_rfl) ?_
    apply Exists.intro
    refine ⟨?hh3, ?pu3, ?ef3⟩
    case hh3 =>
      intro X
      have c2 := FrW.cell (X.fr.cell c2 (fun e => e))
      have x8 := FrW.cell (X.fr.cell x8 (fun e => e))
      simp (config := { decide := true }) only [boxedF, efIdx, List.map_cons, List.map_nil, idleU, if_true, if_false, ite_true, ite_false]
      repeat (go_big_quiet_step (fail))
      exact wpQuiet_nil rfl
    case pu3 =>
      intro i' hi' o ho
      cases hi'
    simp only [efOps, List.filterMap_cons, List.filterMap_nil, List.getElem?_cons_succ, List.getElem?_cons_zero, Option.map_some]
    intro w5 hw5
    have HI5 := Lib.hid (HI4.out.keep0 hw5)
    clear hw5 c0 c2 c3 x8
    go_wp2_with (go_at_call 61; refine (HDo.out _ _ HI5.out.rb.sh HI5.out.il0).mono ?_; rintro e w6 ⟨T6, rfl, h1, h2⟩; have HI6 := Lib.hid (HI5.out.shelf h1 HD2.out h2); clear h1 h2)
    intro w7 hw7
    have HI7 := Lib.hid (HI6.out.keep0 hw7)
    clear hw7
    go_wp2_with fail
    refine ⟨Fr.refl _ _, ?_⟩
    intro w8 hw8
    have hI8 := HI7.out.keep0 hw8
    have x5 := cell_obj (hI8.bx _ (.head _)).1 5 (.int .i64 t) rfl
    have x8 := cell_obj (hI8.bx _ (.head _)).1 8 (.slice pa M pc) rfl
    have HI8 := Lib.hid hI8
    clear hw8 hI8
    go_wp2_with fail
    go_returns
    have hf4 : Fr (fun _ => False) w8 (w8.alloc (.cells (pcs (t, ⟨13, MV, .slice pa M pc, ai, av0, yv0⟩)) 67)) := (Fr.refl _ w8).alloc _
    have q7 := HI8.out.keep0 hf4
    have hs3 := HI8.out.st.1.size
    have hlt3 := HI8.out.rb.lt
    refine ⟨.slice (some ⟨w8.heap.size, 0, none⟩) 1 1, _, [(t, ⟨13, MV, .slice pa M pc, ai, av0, yv0⟩)], by rw [HR.out]; rfl, by rw [HR.out]; exact q7.rb.rg, ?_, by rw [HR.out]; rfl, q7.st, fun p hp b hb => by rw [List.mem_singleton.1 hp] at hb; exact own_its hb⟩
    refine Pst.one (heap_new _ _) hs3 (fun e => by have := hlt3 _ e; omega) ⟨HAO.out.t, mok_its (by decide) hMVo q7.il0, fun b hb => ?_⟩
    have hb2 := own_its hb
    have hbl := HAT2.out hb2.1 b hb2.2
    exact ⟨(HI8.out.nv0 hb2.1 b hb2.2).1, by omega⟩
  · rw [if_pos hD0] at hRd
    have qD : (D.1 != 0) = true := by simpa using hD0
    have HD2 : Hid (D.2 = A) := Lib.hid (by rw [← hD]; exact doS_no10 (by rw [hD]; exact hD0))
    have HR := Lib.hid hRd
    obtain ⟨D1, hD1⟩ : ∃ x, D.1 = x := ⟨_, rfl⟩
    rw [hD1] at HDo qD HR
    have HCo : Hid (∀ W T, WS W gm T G.2 → Calls Tryz.prog 97 #[.pointer (some ⟨gm, 0, none⟩), .int .i64 MV] W fun e w' => ∃ v TS', e = .returned (.tuple #[v, .int .i64 0]) ∧ WS w' gm TS' (putS ktI.lt G.2 MV ⟨MV, me, t, ai, true⟩) ∧ Stp T W w' TS') := Lib.hid (fun W T hw => by
      have hl : G.2.length ≤ 1000000 := by have := putS_len (lt := ktI.lt) (l := ws) (x := MV) (v := (⟨MV, me, t, ai, false⟩ : WE)); rw [← hGp] at this; omega
      exact vCome W gm T G.2 MV ⟨MV, me, t, ai, false⟩ hw hl hMVo (by rw [hGp]; exact getS_put) rfl)
    have HFo : Hid (∀ W T, WS W gm T (putS ktI.lt G.2 MV ⟨MV, me, t, ai, true⟩) → Calls Tryz.prog 98 #[.pointer (some ⟨gm, 0, none⟩), .int .i64 MV] W fun e w' => ∃ TS', e = .returned (.int .i64 0) ∧ WS w' gm TS' ws ∧ Stp T W w' TS') := Lib.hid (fun W T hw => by
      have := vForget W gm T _ MV ⟨MV, me, t, ai, true⟩ hw hMVo getS_put rfl
      rw [hGp, putS_put hGn] at this
      exact this)
    clear hRd hD0 hG hD hG1 hD1 hG0 hGp hGn hGl
    go_enter Tryz.func63, Tryz.ntmps63
    go_wp2_with fail
    (try rw [HW0.out])
    clear hW0
    refine wp_region_eff [(13, false), (14, true)] [] 12 (by kernel_rfl) rfl (by kernel_rfl) (by kernel_rfl) ?_
    apply Exists.intro
    refine ⟨?hh4, ?pu4, ?ef4⟩
    case hh4 =>
      intro X
      have c0 := FrW.cell (X.fr.cell c0 (fun e => e))
      have c3 := FrW.cell (X.fr.cell c3 (fun e => e))
      have x5 := FrW.cell (X.fr.cell x5 (fun e => e))
      have x8 := FrW.cell (X.fr.cell x8 (fun e => e))
      simp (config := { decide := true }) only [boxedF, efIdx, List.map_cons, List.map_nil, idleU, if_true, if_false, ite_true, ite_false]
      repeat (go_big_quiet_step (fail))
      exact wpQuiet_nil rfl
    case pu4 =>
      intro i' hi' o ho
      cases hi'
    simp only [efOps, List.filterMap_cons, List.filterMap_nil, List.getElem?_cons_succ, List.getElem?_cons_zero, Option.map_some]
    intro w1 hw1
    have HI1 := Lib.hid (HI0.out.keep0 hw1)
    clear hw1 c0 c2 c3 x0 x1 x5 x8
    go_wp2_with (go_at_call 96; refine (HGo.out _ _ HI1.out.rb.mv HI1.out.il0).mono ?_; rintro e w2 ⟨T2, rfl, h1, h2⟩; have HI2 := Lib.hid (HI1.out.moves h1 h2); clear h1 h2)
    intro w3 hw3
    have HI3 := Lib.hid (HI2.out.keep0 hw3)
    clear hw3
    go_wp2_with fail
    refine ⟨Fr.refl _ _, ?_⟩
    intro w4 hw4
    have hI4 := HI3.out.keep0 hw4
    obtain ⟨c0, c2, c3⟩ := hI4.cells
    have x8 := cell_obj (hI4.bx _ (.head _)).1 8 (.slice pa M pc) rfl
    have HI4 := Lib.hid hI4
    clear hw4 hI4
    go_wp2_with fail
    refine wp_region_eff [(6, false), (7, true)] [] 12 (by kernel_rfl) rfl (by kernel_rfl) (by kernel_rfl) ?_
    apply Exists.intro
    refine ⟨?hh5, ?pu5, ?ef5⟩
    case hh5 =>
      intro X
      have c2 := FrW.cell (X.fr.cell c2 (fun e => e))
      have x8 := FrW.cell (X.fr.cell x8 (fun e => e))
      simp (config := { decide := true }) only [boxedF, efIdx, List.map_cons, List.map_nil, idleU, if_true, if_false, ite_true, ite_false]
      repeat (go_big_quiet_step (fail))
      exact wpQuiet_nil rfl
    case pu5 =>
      intro i' hi' o ho
      cases hi'
    simp only [efOps, List.filterMap_cons, List.filterMap_nil, List.getElem?_cons_succ, List.getElem?_cons_zero, Option.map_some]
    intro w5 hw5
    have HI5 := Lib.hid (HI4.out.keep0 hw5)
    clear hw5 c0 c2 c3 x8
    go_wp2_with (go_at_call 61; refine (HDo.out _ _ HI5.out.rb.sh HI5.out.il0).mono ?_; rintro e w6 ⟨T6, rfl, h1, h2⟩; rw [HD2.out] at h1; have HI6 := Lib.hid (HI5.out.shelf h1 HH.out.ok h2); clear h1 h2)
    intro w7 hw7
    have HI7 := Lib.hid (HI6.out.keep0 hw7)
    clear hw7
    go_wp2_with fail
    refine ⟨Fr.refl _ _, ?_⟩
    intro w8 hw8
    have hI8 := HI7.out.keep0 hw8
    obtain ⟨c0, c2, c3⟩ := hI8.cells
    have HI8 := Lib.hid hI8
    clear hw8 hI8
    go_wp2_with (first
      | (go_at_call 97; refine (HCo.out _ _ HI8.out.rb.mv).mono ?_; rintro e w9 ⟨v9, T9, rfl, h1, h2⟩; have hi9 := HI8.out.moves h1 h2; have c3 := hi9.cells.2.2; have HI9 := Lib.hid hi9; clear h1 h2 hi9)
      | (go_at_call 98; refine (HFo.out _ _ HI9.out.rb.mv).mono ?_; rintro e wA ⟨TA, rfl, h1, h2⟩; have HIA := Lib.hid (HI9.out.moves h1 h2); clear h1 h2))
    go_returns
    exact ⟨_, _, [], by rw [HR.out]; rfl, by rw [HR.out]; exact HIA.out.rb.rg, Pst.nil, by rw [HR.out]; rfl, HIA.out.st, fun p hp => (by cases hp)⟩
end Go.Proofs.YtmflpeklalgibaaGreat

namespace Go.Proofs.YtmflpeklalgibaaGreat
open Go.RowKit Go.Maps
theorem doMay_okI {A : Stk} {k : Int} {L : Its} : okI (doMay A k L) := by
  unfold doMay
  split
  · exact okI_lit (n := 0) (by decide)
  · split
    · exact okI_lit (n := 71) (by decide)
    · split
      · exact okI_lit (n := 51) (by decide)
      · exact okI_lit (n := 0) (by decide)
theorem doH_okI (A : Stk) (k : Int) (L : Its) : okI (doH A k L).1 := by
  unfold doH
  split
  · unfold doS
    split
    · exact okI_lit (n := 1) (by decide)
    split
    · exact okI_lit (n := 60) (by decide)
    split
    · exact doMay_okI
    split
    · exact okI_lit (n := 50) (by decide)
    · split
      · exact okI_lit (n := 2) (by decide)
      · exact okI_lit (n := 0) (by decide)
  · exact okI_lit (n := 1) (by decide)
theorem count_ok {A : Stk} {le : Hes} {g : Str} {n : Int} (h : ShOk A le) : ShOk (countS A g n).2.2 le := ⟨countS_ok h.stk, h.rise, h.row, h.len⟩
theorem countS_okI {A : Stk} {g : Str} {n : Int} (h : SOk A) : okI (countS A g n).1 ∧ okI (countS A g n).2.1 := by
  unfold countS
  by_cases hm : mayI n = false
  · rw [if_pos hm]; exact ⟨okI_lit (n := 0) (by decide), okI_lit (n := 1) (by decide)⟩
  rw [if_neg hm]
  have hn : 0 ≤ n ∧ n ≤ 1099511627776 := by unfold mayI at hm; simpa using hm
  cases e : getS A g with
  | none => exact ⟨okI_lit (n := 0) (by decide), okI_lit (n := 71) (by decide)⟩
  | some r =>
    dsimp only
    obtain ⟨b, -, -⟩ := h.row _ (getS_memS e)
    have h0 := b.a0; have h1 := b.a1
    dsimp only at h0 h1
    split
    · exact ⟨okI_lit (n := 0) (by decide), okI_lit (n := 70) (by decide)⟩
    · split
      · exact ⟨⟨by dsimp only; omega, by dsimp only; omega⟩, okI_lit (n := 0) (by decide)⟩
      · exact ⟨okI_lit (n := 0) (by decide), okI_lit (n := 50) (by decide)⟩
theorem goF_okI {ws : List (Int × WE)} {mv fr tt : Int} {L : Its} : okI (goF ws mv fr tt L).1 := by
  unfold goF
  split
  · exact okI_lit (n := 1) (by decide)
  split
  · exact okI_lit (n := 60) (by decide)
  split
  · exact okI_lit (n := 5) (by decide)
  split
  · exact okI_lit (n := 2) (by decide)
  · exact okI_lit (n := 0) (by decide)
theorem sendR_fix (me : Int) (x : RSt) (a : AV) : (sendR me x a).2.S = x.S ∧ (sendR me x a).2.le = x.le ∧ (sendR me x a).1.1.length ≤ 1 ∧ okI (sendR me x a).1.2 := by
  unfold sendR
  split
  · exact ⟨rfl, rfl, by simp, goF_okI⟩
  split
  · exact ⟨rfl, rfl, by simp, doH_okI _ _ _⟩
  · exact ⟨rfl, rfl, by simp, okI_lit (n := 0) (by decide)⟩
end Go.Proofs.YtmflpeklalgibaaGreat

