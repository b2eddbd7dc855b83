/- Texts of this claim, joined: bins' laws: floor; entrepotref27: Unpack; entrepotref27: Unpack: the walk; A region that draws its order, whose operations only read and whose calls may lay blocks, within a round of a range over a function: one walk in the text's order serves (the library's theorem on quiet regions asks for no round); bins: Bins, as an iterator over a floor that owns its blocks; Arguments: strings, slices of items, opened; bins' laws: their arguments opened; Plain: how many Put and Take put or take, in sum. -/
import Derived.Test.YtlniekobijcanaaGreatBinsUnpacksM11
import Derived.Test.YtlniekobijcanaaGreatBinsUnpacksM1
import Derived.Test.YtlniekobijcanaaGreatBinsUnpacksM7
import Derived.Test.YtlniekobijcanaaGreatBinsUnpacksM3
import Derived.Sort.QuietIn
import Derived.Test.YtlniekobijcanaaGreatBinsUnpacksM4
import Derived.Test.YtlniekobijcanaaGreatBinsUnpacksM2
namespace Go.Proofs.YtlniekobijcanaaGreat
open Go.RowKit Go.Maps
/-- A slice, read cell by cell. -/
theorem Sq.rd {α : Type} {k : Nat} {cs : α → Array Value} {ok : World → α → Prop} {w : World} {a : Option Addr} {n c : Nat} {L : List α} (h : Sq k cs ok w (.slice a n c) L) (hcs : ∀ r, (cs r).size = k) (hk : 0 < k) : Rd w k a L.length (flat cs L) := by
  obtain ⟨_, a', c', e, h1⟩ := h
  injection e with e1 _ _
  refine ⟨flat_len1 hcs L, fun hm => ?_⟩
  obtain ⟨p0, hp0⟩ : ∃ p, L[0]? = some p := ⟨L[0], List.getElem?_eq_getElem hm⟩
  obtain ⟨-, ad, ha, -⟩ := h1 0 p0 hp0
  refine ⟨ad, by rw [e1, ha], fun j u hu => ?_⟩
  have hj := (List.getElem?_eq_some_iff.1 hu).1
  rw [flat_len1 hcs] at hj
  have hil : j / k < L.length := (Nat.div_lt_iff_lt_mul hk).2 hj
  have hmk : j % k < k := Nat.mod_lt _ hk
  obtain ⟨p, hp⟩ : ∃ p, L[j / k]? = some p := ⟨L[j / k], List.getElem?_eq_getElem hil⟩
  obtain ⟨-, ad', ha', k0⟩ := h1 (j / k) p hp
  have : ad' = ad := by rw [ha] at ha'; exact (Option.some.inj ha').symm
  subst this
  have hps : (cs p)[j % k]? = some ((cs p)[j % k]'(by rw [hcs]; exact hmk)) := Array.getElem?_eq_getElem _
  have h10 := flat_at hcs hp (j % k) _ hps
  have hjj : j / k * k + j % k = j := by rw [Nat.mul_comm]; exact Nat.div_add_mod j k
  have h11 := k0 (j % k) _ hps
  rw [hjj] at h10 h11
  rw [h10] at hu
  cases hu
  exact h11
/-- What floor gives. -/
def FlP (w : World) (B : List BI) (e : Ending) (w' : World) : Prop :=
  (mayBs B = false ∧ e = .returned (.tuple #[.pointer none, .pointer none, .bool false]) ∧ Fr (fun _ => False) w w') ∨
  (mayBs B = true ∧ ∃ g gr vr wa, e = .returned (.tuple #[.pointer (some ⟨g, 0, none⟩), .pointer (some ⟨gr, 0, none⟩), .bool true]) ∧ FS w wa g (B.map BI.e) ∧ wa.heap.size ≤ gr ∧ Fr (fun _ => False) wa w' ∧ w'.heap[gr]? = some (.cells #[vr] 85) ∧ w'.ownsRow (gr + 1) 82 4 vr B.length (flat BV.cs (B.map BI.bv)))
theorem bOkL_all : ∀ {last : Int} {B : List BI}, bOkL last B = true → ∀ b ∈ B, beokB b.e = true
  | _, [], _, _, h => by cases h
  | last, c :: r, h, b, hb => by
    have h' : (mayBinF c.nu c.zo c.ro && decide (last < c.nu) && bOkL c.nu r) = true := h
    unfold mayBinF at h'
    simp only [Bool.and_eq_true, decide_eq_true_eq] at h'
    obtain ⟨⟨⟨⟨⟨⟨⟨h1, h2⟩, h3⟩, h4⟩, h5⟩, h6⟩, h7⟩, h8⟩ := h'
    rcases List.mem_cons.1 hb with rfl | hb
    · have h9 : sumI ([] : Its) = 0 := rfl
      have h10 : mayL ([] : Its) = true := rfl
      unfold beokB BI.e
      simp [h1, h2, h3, h4, h5, h6, h9, h10]; omega
    · exact bOkL_all h8 b hb
theorem mayBs_ok {B : List BI} (h : mayBs B = true) : (∀ x ∈ B.map BI.e, BEok x) ∧ 0 < B.length ∧ B.length ≤ 64 := by
  unfold mayBs at h
  simp only [Bool.and_eq_true, decide_eq_true_eq] at h
  refine ⟨fun x hx => ?_, by omega, by omega⟩
  obtain ⟨b, hb, rfl⟩ := List.mem_map.1 hx
  exact beok_of (bOkL_all h.2 b hb)
set_option maxRecDepth 100000 in
set_option maxHeartbeats 8000000 in
theorem lFloor (w : World) (v : Value) (B : List BI) (h : Sbi w v B) : Calls Tryz.prog 11 #[v] w fun e w' => FlP w B e w' := by
  obtain ⟨i0, hi', hz0, hz1, hz2⟩ := info_parts infoBi
  obtain ⟨a, c, rfl⟩ := h.sl
  have HB := Lib.hid h
  have hM := Lib.hid (rMay w _ B h)
  obtain ⟨N, hN⟩ : ∃ N, B.length = N := ⟨_, rfl⟩
  have HN := Lib.hid hN
  obtain ⟨PP, hPP⟩ : ∃ PP, FlP w B = PP := ⟨_, rfl⟩
  have HPP := Lib.hid hPP
  rw [hPP]
  clear hPP h
  cases hm : mayBs B with
  | false =>
    have HM := Lib.hid hm
    rw [hm] at hM
    clear hm
    rw [hN] at hM ⊢
    go_enter Tryz.func11, Tryz.ntmps11
    go_wp2_with (go_at_call 12; refine hM.out.mono ?_; rintro e w1 ⟨rfl, hf1⟩; have HF1 := Lib.hid hf1; clear hf1)
    rw [← HPP.out]
    exact .inl ⟨HM.out, rfl, HF1.out⟩
  | true =>
    have HM := Lib.hid hm
    have hok := mayBs_ok hm
    have HOK := Lib.hid hok
    rw [hm] at hM
    have hN64 : N ≤ 64 := by omega
    clear hm hok
    rw [hN] at hM ⊢
    go_enter Tryz.func11, Tryz.ntmps11
    go_wp2_with (first
      | (go_at_call 12; refine hM.out.mono ?_; rintro e w1 ⟨rfl, hf1⟩; have HF1 := Lib.hid hf1; have hrd := ((HB.out.fr0 okBiKeeps hf1).fr0 okBiKeeps ((Fr.refl (fun _ => False) w1).alloc (.cells #[] 36))).rd biSize (by omega); rw [HN.out] at hrd; have HRD := Lib.hid hrd; clear hf1 hrd)
      | (at_builtin; refine wpList_append_src rfl _ _ 22 rfl w1.heap.size 36 i0 (.agg #[.int .i64 0, .int .i64 0, .int .i64 0]) 24 Tryz.underlying22 hi' hz0 hz1 hz2 rfl (by decide) (.slice (some ⟨w1.heap.size, 0, none⟩) 0 0) 0 [] rfl (World.ownsRow_made w1 #[] 0 (Nat.le_refl _) (Nat.zero_le _) rfl) _ rfl HRD.out (by intro u hu; simp only [flat, List.mem_flatMap] at hu; obtain ⟨b, _, hr⟩ := hu; simp only [biC, List.mem_cons, List.not_mem_nil, or_false] at hr; rcases hr with rfl | rfl | rfl <;> rfl) (by unfold maxLen; omega) (by omega) (by simp) ?_; intro v6 w6 hown6 hgrow6 hloc6; have HO6 := Lib.hid hown6; have HG6 := Lib.hid hgrow6; clear hown6 hgrow6 hloc6))
    have hf6 : Fr (fun _ => False) w w6 := (HF1.out.trans ((Fr.refl _ w1).alloc _)).trans' (Fr.grown (S := fun b => w1.heap.size ≤ b) HG6.out (fun r hr _ => by cases hr; exact Nat.le_refl _)) (fun b hb e => by have := HF1.out.size; omega)
    have hS6 : Sbi w6 v6 B := Sq.own biSize (by have := HO6.out; rw [Nat.zero_add, List.nil_append] at this; rw [HN.out]; exact this) (fun b hb => HB.out.okm hb)
    have HF6 := Lib.hid hf6
    clear hf6
    refine (bNew w6 _ B hS6).mono ?_
    rintro e w7 ⟨hf7, ⟨hm, -⟩ | ⟨-, g, TS, L, rfl, hFA, hLm, hTS⟩⟩
    · rw [HM.out] at hm; cases hm
    have HFS : Hid (FS w w7 g (B.map BI.e)) := Lib.hid ⟨⟨TS, L, hFA, hLm, fun b hb => Nat.le_trans HF6.out.size (hTS b hb)⟩, HF6.out.trans hf7, HOK.out.1, by rw [List.length_map]; exact HOK.out.2⟩
    have hRN := Lib.hid (rNew w7 _ B (HB.out.fr0 okBiKeeps (HF6.out.trans hf7)) HOK.out.2.2)
    rw [HN.out] at hRN
    clear hS6 hf7 hFA hLm hTS
    go_wp2_with fail
    refine hRN.out.mono ?_
    rintro e w8 ⟨gr, vr, rfl, hgr, hobj, hrow, hf8⟩
    have HR8 := Lib.hid (show FlP w B (.returned (.tuple #[.pointer (some ⟨g, 0, none⟩), .pointer (some ⟨gr, 0, none⟩), .bool true])) w8 from .inr ⟨HM.out, g, gr, vr, w7, rfl, HFS.out, hgr, hf8, hobj, hrow⟩)
    clear hgr hobj hrow hf8
    go_wp2_with fail
    rw [← HPP.out]
    exact HR8.out
end Go.Proofs.YtlniekobijcanaaGreat
namespace Go.Proofs.YtlniekobijcanaaGreat
open Go.RowKit Go.Maps
theorem infoRowU : (Tryz.prog.info? 82).map (fun i => (i.zero, i.size, i.bytes)) = some (some (.agg #[.int .i64 0, .int .i64 0, .int .i64 0, .slice none 0 0]), 4, 48) := by kernel_rfl
def bvI (b : BV) : BI := ⟨b.nu, b.zo, b.ro⟩
theorem bvI_e (L : List BV) : (L.map BV.e).map binI = L.map bvI := by rw [List.map_map]; rfl
theorem own_ty {w : World} {base : Nat} {e : TypeId} {size n c : Nat} {v : Value} {xs : List Value} (h : w.ownsRow base e size v n xs) (hc : v.ownBlock = some c) : ∃ cur, w.heap[c]? = some (.cells cur e) := by
  rcases h.2 with ⟨rfl, _⟩ | ⟨g, cap, cur, rfl, _, hb, _⟩
  · cases hc
  · cases hc; exact ⟨cur, hb⟩
theorem ty_ne {w : World} {b c : Nat} {x y : Array Value} {s t : TypeId} (h1 : w.heap[b]? = some (.cells x s)) (h2 : w.heap[c]? = some (.cells y t)) (h : s ≠ t) : b ≠ c := fun e => by
  subst e
  rw [h1] at h2
  injection h2 with h2
  injection h2 with _ h2
  exact h h2
/-- On the way of the reference's Unpack. -/
structure UxI (w0 W : World) (n0 M0 : Nat) (K : Nat → Prop) (ML : List BV) (t : Tst) (vr vl : Value) : Prop where
  tr : TR W n0 K t.1 t.2
  flo : W.heap[n0 + 1]? = some (.cells #[vr] 85)
  rows : W.ownsRow (n0 + 2) 82 4 vr ML.length (flat BV.cs ML)
  bins : W.ownsRow (n0 + 2) 36 3 vl ML.length (flat biC (ML.map bvI))
  its : ∀ b ∈ ML, BOk W b ∧ (b.its ≠ [] → ∀ c, b.l.ownBlock = some c → n0 + 2 ≤ c ∧ c < M0 ∧ ∃ cur, W.heap[c]? = some (.cells cur 124))
  lt : (∀ c, vr.ownBlock = some c → c < M0) ∧ (∀ c, vl.ownBlock = some c → c < M0) ∧ n0 + 2 ≤ M0
  fr : Fr (fun b => n0 ≤ b) w0 W
section
variable {w0 W W' : World} {n0 M0 : Nat} {K : Nat → Prop} {ML : List BV} {t t' : Tst} {vr vl : Value}
theorem UxI.take (h : UxI w0 W n0 M0 K ML t vr vl) (ht : TR W' n0 K t'.1 t'.2) (hf : Fr (fun b => b = n0) W W') : UxI w0 W' n0 M0 K ML t' vr vl := by
  obtain ⟨-, h2, h3, h4, h5, h6, h7⟩ := h
  refine ⟨ht, hf.at_ h2 (by omega), hf.row h3 (fun b hb e => by have := (h3.lt b hb).1; have e : b = n0 := e; omega), hf.row h4 (fun b hb e => by have := (h4.lt b hb).1; have e : b = n0 := e; omega), fun b hb => ?_, h6, h7.trans' hf (fun b _ e => by have e : b = n0 := e; omega)⟩
  obtain ⟨k1, k2⟩ := h5 b hb
  refine ⟨k1.keep hf (fun hne c hc e => by have := (k2 hne c hc).1; have e : c = n0 := e; omega), fun hne c hc => ?_⟩
  obtain ⟨j1, j2, cur, j3⟩ := k2 hne c hc
  exact ⟨j1, j2, cur, hf.at_ j3 (by omega)⟩
theorem UxI.keep (h : UxI w0 W n0 M0 K ML t vr vl) (hK : ∀ b, K b → b < n0) (hf : Fr (fun b => M0 ≤ b) W W') : UxI w0 W' n0 M0 K ML t vr vl := by
  obtain ⟨h1, h2, h3, h4, h5, h6, h7⟩ := h
  have hm := h6.2.2
  refine ⟨h1.fr hf (fun e => by have e : M0 ≤ n0 := e; omega) (fun b hb e => by have := hK b hb; have e : M0 ≤ b := e; omega), hf.at_ h2 (by omega), hf.row h3 (fun b hb e => by have := h6.1 b hb; have e : M0 ≤ b := e; omega), hf.row h4 (fun b hb e => by have := h6.2.1 b hb; have e : M0 ≤ b := e; omega), fun b hb => ?_, h6, h7.trans' hf (fun b _ e => by have e : M0 ≤ b := e; omega)⟩
  obtain ⟨k1, k2⟩ := h5 b hb
  refine ⟨k1.keep hf (fun hne c hc e => by have := (k2 hne c hc).2.1; have e : M0 ≤ c := e; omega), fun hne c hc => ?_⟩
  obtain ⟨j1, j2, cur, j3⟩ := k2 hne c hc
  exact ⟨j1, j2, cur, hf.at_ j3 (by omega)⟩
theorem UxI.now (h : UxI w0 W n0 M0 K ML t vr vl) : UxI w0 W n0 W.heap.size K ML t vr vl := by
  obtain ⟨h1, h2, h3, h4, h5, h6, h7⟩ := h
  have hm := (Array.getElem?_eq_some_iff.1 h2).1
  refine ⟨h1, h2, h3, h4, fun b hb => ?_, ⟨fun c hc => (h3.lt c hc).2, fun c hc => (h4.lt c hc).2, by omega⟩, h7⟩
  obtain ⟨k1, k2⟩ := h5 b hb
  refine ⟨k1, fun hne c hc => ?_⟩
  obtain ⟨j1, j2, cur, j3⟩ := k2 hne c hc
  exact ⟨j1, (Array.getElem?_eq_some_iff.1 j3).1, cur, j3⟩
theorem UxI.frF (h : UxI w0 W n0 M0 K ML t vr vl) (hn : w0.heap.size = n0) : Fr (fun _ => False) w0 W := h.fr.mono (fun b hb e => by have e : n0 ≤ b := e; omega)
theorem UxI.rows1 {W1 : World} (h : UxI w0 W n0 M0 K ML t vr vl) (hf1 : Fr (fun c => vl.ownBlock = some c) W W1) : W1.ownsRow (n0 + 2) 82 4 vr ML.length (flat BV.cs ML) := hf1.row h.rows (fun c hc e => by
    obtain ⟨x, hx⟩ := own_ty h.rows hc
    obtain ⟨y, hy⟩ := own_ty h.bins e
    exact ty_ne hx hy (by decide) rfl)
/-- One more row: the bins' row grows, then the rows, then the floor is set. -/
theorem UxI.push {W1 W2 W3 : World} {vl' vr' : Value} {b : BV} (h : UxI w0 W n0 M0 K ML t vr vl) (hK : ∀ b, K b → b < n0)
    (hb : BOk W b) (hbi : b.its ≠ [] → ∀ c, b.l.ownBlock = some c → n0 + 2 ≤ c ∧ ∃ cur, W.heap[c]? = some (.cells cur 124))
    (hf1 : Fr (fun c => vl.ownBlock = some c) W W1) (ho1 : W1.ownsRow (n0 + 2) 36 3 vl' (ML.length + 1) (flat biC (ML.map bvI) ++ [.int .i64 b.nu, .int .i64 b.zo, .int .i64 b.ro]))
    (hf2 : Fr (fun c => vr.ownBlock = some c) W1 W2) (ho2 : W2.ownsRow (n0 + 2) 82 4 vr' (ML.length + 1) (flat BV.cs ML ++ [.int .i64 b.nu, .int .i64 b.zo, .int .i64 b.ro, b.l]))
    (hf3 : Fr (fun c => c = n0 + 1) W2 W3) (ho3 : W3.heap[n0 + 1]? = some (.cells #[vr'] 85)) : UxI w0 W3 n0 W3.heap.size K (ML ++ [b]) t vr' vl' := by
  have hmax := h.lt.2.2
  obtain ⟨h1, h2, h3, h4, h5, h6, h7⟩ := h
  have nvl : ∀ c, vl.ownBlock = some c → n0 + 2 ≤ c := fun c hc => (h4.lt c hc).1
  have nvr : ∀ c, vr.ownBlock = some c → n0 + 2 ≤ c := fun c hc => (h3.lt c hc).1
  have h31 : W1.ownsRow (n0 + 2) 82 4 vr ML.length (flat BV.cs ML) := hf1.row h3 (fun c hc e => by
    obtain ⟨x, hx⟩ := own_ty h3 hc
    obtain ⟨y, hy⟩ := own_ty h4 e
    exact ty_ne hx hy (by decide) rfl)
  have hall : ∀ x : BV, BOk W x → (x.its ≠ [] → ∀ c, x.l.ownBlock = some c → n0 + 2 ≤ c ∧ ∃ cur, W.heap[c]? = some (.cells cur 124)) → BOk W3 x ∧ (x.its ≠ [] → ∀ c, x.l.ownBlock = some c → n0 + 2 ≤ c ∧ c < W3.heap.size ∧ ∃ cur, W3.heap[c]? = some (.cells cur 124)) := fun x k1 k2 => by
    have n1 : x.its ≠ [] → ∀ c, x.l.ownBlock = some c → ¬ vl.ownBlock = some c := fun hne c hc e => by
      obtain ⟨-, cur, j3⟩ := k2 hne c hc
      obtain ⟨y, hy⟩ := own_ty h4 e
      exact ty_ne j3 hy (by decide) rfl
    have n2 : x.its ≠ [] → ∀ c, x.l.ownBlock = some c → ¬ vr.ownBlock = some c := fun hne c hc e => by
      obtain ⟨-, cur, j3⟩ := k2 hne c hc
      obtain ⟨y, hy⟩ := own_ty h3 e
      exact ty_ne j3 hy (by decide) rfl
    refine ⟨((k1.keep hf1 n1).keep hf2 n2).keep hf3 (fun hne c hc e => by have := (k2 hne c hc).1; have e : c = n0 + 1 := e; omega), fun hne c hc => ?_⟩
    obtain ⟨j1, cur, j3⟩ := k2 hne c hc
    have j4 := hf3.at_ (hf2.at_ (hf1.at_ j3 (n1 hne c hc)) (n2 hne c hc)) (by omega)
    exact ⟨j1, (Array.getElem?_eq_some_iff.1 j4).1, cur, j4⟩
  have e1 : (ML ++ [b]).length = ML.length + 1 := by simp
  have hsz := (Array.getElem?_eq_some_iff.1 ho3).1
  have r3 : W3.ownsRow (n0 + 2) 82 4 vr' (ML ++ [b]).length (flat BV.cs (ML ++ [b])) := by
    rw [e1, flat_app]
    exact hf3.row ho2 (fun c hc e => by have := (ho2.lt c hc).1; have e : c = n0 + 1 := e; omega)
  have r4 : W3.ownsRow (n0 + 2) 36 3 vl' (ML ++ [b]).length (flat biC ((ML ++ [b]).map bvI)) := by
    rw [e1, List.map_append, flat_app]
    refine hf3.row (hf2.row ho1 (fun c hc e => ?_)) (fun c hc e => by have := (ho1.lt c hc).1; have e : c = n0 + 1 := e; omega)
    obtain ⟨x, hx⟩ := own_ty ho1 hc
    obtain ⟨y, hy⟩ := own_ty h31 e
    exact ty_ne hx hy (by decide) rfl
  refine ⟨((h1.fr hf1 (fun e => by have := nvl _ e; omega) (fun c hc e => by have := nvl _ e; have := hK c hc; omega)).fr hf2 (fun e => by have := nvr _ e; omega) (fun c hc e => by have := nvr _ e; have := hK c hc; omega)).fr hf3 (fun e => by have e : n0 = n0 + 1 := e; omega) (fun c hc e => by have := hK c hc; have e : c = n0 + 1 := e; omega), ho3, r3, r4, fun x hx => ?_, ⟨fun c hc => (r3.lt c hc).2, fun c hc => (r4.lt c hc).2, by
    have := hf1.size; have := hf2.size; have := hf3.size
    rcases r3.2 with ⟨_, e⟩ | ⟨g, _, _, rfl, hg, hx, _⟩
    · rw [e1] at e; omega
    · have := (Array.getElem?_eq_some_iff.1 hx).1; omega⟩, ((h7.trans' hf1 (fun c _ e => by have := nvl _ e; omega)).trans' hf2 (fun c _ e => by have := nvr _ e; omega)).trans' hf3 (fun c _ e => by have e : c = n0 + 1 := e; omega)⟩
  rcases List.mem_append.1 hx with hx | hx
  · exact hall x (h5 x hx).1 (fun hne c hc => by obtain ⟨j1, -, j3⟩ := (h5 x hx).2 hne c hc; exact ⟨j1, j3⟩)
  · rw [List.mem_singleton.1 hx]; exact hall b hb hbi
theorem UxI.ra (h : UxI w0 W n0 M0 K ML t vr vl) (hl : 0 < ML.length) : RA W (n0 + 1) (fun c => n0 + 1 ≤ c ∧ c < W.heap.size) ML := by
  obtain ⟨h1, h2, h3, h4, h5, h6, h7⟩ := h
  have h3' := h3
  rcases h3.2 with ⟨_, e⟩ | ⟨r, cap, cur, rfl, hg, hx, hn, hm, hs, ht⟩
  · omega
  · have hrl := (Array.getElem?_eq_some_iff.1 hx).1
    refine ⟨⟨r, cap, cur, h2, hx, hn, hm, hs, ht, ⟨by omega, hrl⟩, by omega, fun b hb => ⟨(h5 b hb).1, fun hne c hc => ?_⟩⟩, ⟨Nat.le_refl _, (Array.getElem?_eq_some_iff.1 h2).1⟩, fun b hb => hb.2⟩
    obtain ⟨j1, j2, cur', j3⟩ := (h5 b hb).2 hne c hc
    exact ⟨⟨by omega, (Array.getElem?_eq_some_iff.1 j3).1⟩, by omega, ty_ne j3 hx (by decide)⟩
end
/-- What Unpack leaves. -/
def UbP (w : World) (Z : Option (List BE)) (e : Ending) (w' : World) : Prop := Fr (fun _ => False) w w' ∧ match Z with
  | some M => ∃ g TS L, e = .returned (.tuple #[.pointer (some ⟨g, 0, none⟩), .bool true]) ∧ RA w' g TS L ∧ L.map BV.e = M ∧ ∀ b, TS b → w.heap.size ≤ b
  | none => e = .returned (.tuple #[.pointer none, .bool false])
end Go.Proofs.YtlniekobijcanaaGreat
namespace Go.Proofs.YtlniekobijcanaaGreat
open Go.RowKit Go.Maps
theorem unp_step {n : Nat} {t : Tst} {M : List BE} {nu zo ro : Int} {its : Its} {t1 t2 t3 t4 : Tst} {okb : Bool} (hb : t.2 = false) (h1 : tk t 1 4096 = (nu, t1)) (h2 : tk t1 0 15 = (zo, t2)) (h3 : tk t2 1 1099511627776 = (ro, t3)) (h4 : readR t3 = (its, t4, okb)) :
    unpF (n + 1) t M = if okb = false then none else if leftE ⟨nu, zo, ro, its⟩ < 0 then none else unpF n t4 (M ++ [⟨nu, zo, ro, its⟩]) := by
  have e : unpF (n + 1) t M = if t.2 = true then some (M, t) else if (rrow t).2.2.2 = false then none else if leftE (putI (rrow t).1 (rrow t).2.1) < 0 then none else unpF n (rrow t).2.2.1 (M ++ [putI (rrow t).1 (rrow t).2.1]) := rfl
  rw [e, if_neg (by rw [hb]; simp)]
  have er : rrow t = (⟨nu, zo, ro⟩, its, t4, okb) := by
    unfold rrow
    rw [h1]
    dsimp only
    rw [h2]
    dsimp only
    rw [h3]
    dsimp only
    rw [h4]
  rw [er]
  rfl
set_option maxRecDepth 100000 in
set_option maxHeartbeats 32000000 in
theorem rUnp (w : World) (v : Value) (bs : List Int) (hb : Bs w v bs) (hcap : ∀ a n c, v = .slice a n c → n ≤ c) (hob : ∀ b, v.ownBlock = some b → b < w.heap.size) :
    Calls Tryz.prog 23 #[v] w (UbP w (unpackE bs)) := by
  obtain ⟨i0, hi', hz0, hz1, hz2⟩ := info_parts infoBi
  obtain ⟨j0, hj', hy0, hy1, hy2⟩ := info_parts infoRowU
  obtain ⟨Z, hZ⟩ : ∃ Z, unpackE bs = Z := ⟨_, rfl⟩
  rw [hZ]
  rw [← unpackR_eq] at hZ
  unfold unpackR at hZ
  obtain ⟨_, a, cap, rfl, _⟩ := id hb
  obtain ⟨K, hK⟩ : ∃ K : Nat → Prop, K = fun b => b < w.heap.size := ⟨_, rfl⟩
  obtain ⟨n0, hn0⟩ : ∃ n0, w.heap.size = n0 := ⟨_, rfl⟩
  have hT0 : TR (w.alloc (.cells #[.slice a bs.length cap, .bool false] 105)) n0 K bs false :=
    ⟨_, heap_at hn0.symm _, hb.fr (S := fun _ => False) ((Fr.refl _ w).alloc _) (fun _ h => h.elim), hcap, fun b e => by have := hob b e; rw [hK]; exact ⟨this, by omega⟩⟩
  obtain ⟨W, hW⟩ : ∃ W, (w.alloc (.cells #[.slice a bs.length cap, .bool false] 105)).alloc (.cells #[.slice none 0 0] 85) = W := ⟨_, rfl⟩
  have hU0 : UxI w W n0 (n0 + 2) K [] (bs, false) (.slice none 0 0) (.slice none 0 0) := by
    rw [← hW]
    exact ⟨hT0.fr ((Fr.refl (fun _ => False) _).alloc _) (fun h => h) (fun _ _ h => h), heap_at (by simp; omega) _, World.ownsRow_nil _ _ _ _, World.ownsRow_nil _ _ _ _, fun b hb => (by cases hb), ⟨fun c hc => (by cases hc), fun c hc => (by cases hc), Nat.le_refl _⟩, ((Fr.refl _ w).alloc _).alloc _⟩
  obtain ⟨PP, hPP⟩ : ∃ PP, UbP w Z = PP := ⟨_, rfl⟩
  have HPP := Lib.hid hPP
  rw [hPP]
  have HKK : Hid (∀ b, K b → b < n0) := Lib.hid (fun b hb => by rw [hK] at hb; omega)
  have HZ := Lib.hid hZ; have HUP := Lib.hid hU0; have HN0 := Lib.hid hn0; have HWW := Lib.hid hW
  clear hb hcap hob hT0 hU0 hK hW hZ hn0 hPP
  go_enter Tryz.func23, Tryz.ntmps23
  go_wp2_with fail
  rw [HWW.out, HN0.out]
  refine (rTk W n0 K (bs, false) 1 64 HUP.out.tr).mono ?_
  have hn := tk_in1 (bs, false) (b := 64) (by omega)
  obtain ⟨k0, hk0⟩ : ∃ k, tk (bs, false) 1 64 = k := ⟨_, rfl⟩
  rw [hk0] at hn HZ ⊢
  rintro e w3 ⟨rfl, hK3, hF3⟩
  have HUP3 := Lib.hid (HUP.out.take hK3 hF3)
  obtain ⟨hn0', hn1⟩ := hn
  obtain ⟨N, hN⟩ : ∃ N : Nat, k0.1 = N := ⟨k0.1.toNat, by omega⟩
  rw [hN, Int.toNat_natCast] at HZ
  rw [hN] at hn0' hn1 ⊢
  have hN64 : N ≤ 64 := by omega
  clear hn0' hN hK3 hF3 hk0 HUP HWW
  go_wp2_with fail
  go_loopw [6, 8] (fun vl vi wr => ∃ (k : Nat) (ML : List BV) (t : Tst) (M0 : Nat) (vr : Value), k ≤ N ∧ vi = .int .i64 k ∧ UxI w wr n0 M0 K ML t vr vl ∧ unpEnd (unpF (N - k) t (ML.map BV.e)) = Z ∧ ML.length = k) (fun _ vi _ => N - (intOf vi).toNat)
  case atStart => exact ⟨0, [], k0.2, _, _, Nat.zero_le _, rfl, HUP3.out, HZ.out, rfl⟩
  case round =>
    obtain ⟨k, ML, t, M0, vr, hk, rfl, hU, hfin, hlen⟩ := hrel
    have HU := Lib.hid hU.now; have HFIN := Lib.hid hfin; have HLEN := Lib.hid hlen
    obtain ⟨tv, t1', t2', -, -⟩ := hU.tr
    have htl : (t.1.length : Int) ≤ 9223372036854775807 := by have := t2'.1; omega
    obtain ⟨_, ta, tc, rfl, _⟩ := id t2'
    have b0 := cell_obj t1' 0 (.slice ta t.1.length tc) rfl
    have b1 := cell_obj t1' 1 (.bool t.2) rfl
    obtain ⟨la, lc, rfl⟩ := row_sl hU.bins
    obtain ⟨ra, rc, rfl⟩ := row_sl hU.rows
    rw [hlen]
    have HUB := hU.bins
    rw [hlen] at HU
    have hn0l : Hid (n0 + 2 ≤ wr.heap.size) := Lib.hid HU.out.lt.2.2
    clear hU hfin t1' t2' HUB HUP3 HZ
    by_cases hgo : k < N ∧ t.2 = false
    · obtain ⟨hlt, hb⟩ := hgo
      rw [hb] at b1
      have hkI : (k : Int) < N := by omega
      obtain ⟨q1, hq1⟩ : ∃ q, tk t 1 4096 = q := ⟨_, rfl⟩
      obtain ⟨nu, t1⟩ := q1
      obtain ⟨q2, hq2⟩ : ∃ q, tk t1 0 15 = q := ⟨_, rfl⟩
      obtain ⟨zo, t2⟩ := q2
      obtain ⟨q3, hq3⟩ : ∃ q, tk t2 1 1099511627776 = q := ⟨_, rfl⟩
      obtain ⟨ro, t3⟩ := q3
      obtain ⟨q4, hq4⟩ : ∃ q, readR t3 = q := ⟨_, rfl⟩
      obtain ⟨its, t4, okb⟩ := q4
      have hst := unp_step (n := N - (k + 1)) (M := ML.map BV.e) hb hq1 hq2 hq3 hq4
      have hstep : Hid (Z = unpEnd (if okb = false then none else if leftE ⟨nu, zo, ro, its⟩ < 0 then none else unpF (N - (k + 1)) t4 (ML.map BV.e ++ [⟨nu, zo, ro, its⟩]))) := Lib.hid (by
        rw [← hst, ← HFIN.out, show N - k = N - (k + 1) + 1 by omega])
      have ok1 : okI nu := by have := tk_in1 t (b := 4096) (by omega); rw [hq1] at this; unfold okI; dsimp only at this; omega
      have ok2 : okI zo := by have := tk_in t1 (a := 0) (b := 15) (by omega) (by omega); rw [hq2] at this; unfold okI; dsimp only at this; omega
      have ok3 : okI ro := by have := tk_in1 t2 (b := 1099511627776) (by omega); rw [hq3] at this; unfold okI; dsimp only at this; omega
      have OK := Lib.hid (And.intro ok1 (And.intro ok2 ok3))
      have hT1 := Lib.hid (fun W (h : TR W n0 K t.1 t.2) => rTk W n0 K t 1 4096 h)
      have hT2 := Lib.hid (fun W (h : TR W n0 K t1.1 t1.2) => rTk W n0 K t1 0 15 h)
      have hT3 := Lib.hid (fun W (h : TR W n0 K t2.1 t2.2) => rTk W n0 K t2 1 1099511627776 h)
      have hT4 := Lib.hid (fun W (h : TR W n0 K t3.1 t3.2) (hs : n0 ≤ W.heap.size) => rRead W n0 K t3 h (fun b hb => Nat.lt_of_lt_of_le (HKK.out b hb) hs))
      rw [hq1] at hT1; rw [hq2] at hT2; rw [hq3] at hT3; rw [hq4] at hT4
      dsimp only at hT1 hT2 hT3 hT4
      obtain ⟨nb, hnb⟩ : ∃ nb, wr.heap.size = nb := ⟨_, rfl⟩
      have HNB := Lib.hid hnb
      rw [hnb] at HU hn0l
      obtain ⟨W0, hW0⟩ : ∃ W0, wr.alloc (.cells #[.int .i64 0, .int .i64 0, .int .i64 0] 36) = W0 := ⟨_, rfl⟩
      have hf0 : Fr (fun b => nb ≤ b) wr W0 := by rw [← hW0]; exact (Fr.refl _ wr).alloc _
      have hx0 : W0.heap[nb]? = some (.cells #[.int .i64 0, .int .i64 0, .int .i64 0] 36) := by rw [← hW0]; exact heap_at hnb.symm _
      have HF0 := Lib.hid hf0; have HX0 := Lib.hid hx0
      have b1 := hf0.cell b1 (fun e => by have := hn0l.out; have e : nb ≤ n0 := e; omega)
      have c0 := cell_obj hx0 0 (.int .i64 0) rfl; have c1 := cell_obj hx0 1 (.int .i64 0) rfl; have c2 := cell_obj hx0 2 (.int .i64 0) rfl
      have f0 := obj_frozen hx0 0; have f1 := obj_frozen hx0 1; have f2 := obj_frozen hx0 2
      clear hst hq1 hq2 hq3 hq4 ok1 ok2 ok3 hlt hb hf0 hx0 b0
      go_wp2_with fail
      obtain ⟨W1, hW1⟩ : ∃ W1, ((W0.setCell ⟨nb, 0, none⟩ (.int .i64 0)).setCell ⟨nb, 1, none⟩ (.int .i64 0)).setCell ⟨nb, 2, none⟩ (.int .i64 0) = W1 := ⟨_, rfl⟩
      (try rw [hW1])
      have hF1 : Fr (fun b => nb ≤ b) wr W1 := by
        rw [← hW1]
        exact Fr.setCell (S := fun b => nb ≤ b) (Fr.setCell (S := fun b => nb ≤ b) (Fr.setCell (S := fun b => nb ≤ b) HF0.out (p := ⟨nb, 0, none⟩) (fun _ => Nat.le_refl _) _) (p := ⟨nb, 1, none⟩) (fun _ => Nat.le_refl _) _) (p := ⟨nb, 2, none⟩) (fun _ => Nat.le_refl _) _
      have hX1 : W1.heap[nb]? = some (.cells #[.int .i64 0, .int .i64 0, .int .i64 0] 36) := by
        rw [← hW1, obj_set (obj_set (obj_set HX0.out 0 _) 1 _) 2 _]; rfl
      have HU := Lib.hid (HU.out.keep HKK.out hF1)
      have HX1 := Lib.hid hX1
      have hnn : Hid (n0 ≠ nb) := Lib.hid (by have := hn0l.out; omega)
      clear hF1 hX1 hW1 hW0 c0 c1 c2 f0 f1 f2 b1
      refine (hT1.out W1 HU.out.tr).mono ?_
      rintro e w2 ⟨rfl, ht, hf⟩
      have HU := Lib.hid (HU.out.take (t' := t1) ht hf)
      have HX := Lib.hid (hf.at_ HX1.out (fun e => hnn.out e.symm))
      clear ht hf HX1
      have c0 := cell_obj HX.out 0 (.int .i64 0) rfl
      have f0 := obj_frozen HX.out 0
      go_wp2_with fail
      obtain ⟨W3, hW3⟩ : ∃ W3, w2.setCell ⟨nb, 0, none⟩ (.int .i64 nu) = W3 := ⟨_, rfl⟩
      rw [hW3]
      have HU := Lib.hid (HU.out.keep HKK.out (show Fr (fun b => nb ≤ b) w2 W3 by rw [← hW3]; exact (Fr.refl (fun b => nb ≤ b) w2).setCell (p := ⟨nb, 0, none⟩) (fun _ => Nat.le_refl _) _))
      have HX : Hid (W3.heap[nb]? = some (.cells #[.int .i64 nu, .int .i64 0, .int .i64 0] 36)) := Lib.hid (by rw [← hW3, obj_set HX.out 0 _]; rfl)
      clear hW3 c0 f0
      refine (hT2.out W3 HU.out.tr).mono ?_
      rintro e w4 ⟨rfl, ht, hf⟩
      have HU := Lib.hid (HU.out.take (t' := t2) ht hf)
      have HX := Lib.hid (hf.at_ HX.out (fun e => hnn.out e.symm))
      clear ht hf
      have c0 := cell_obj HX.out 1 (.int .i64 0) rfl
      have f0 := obj_frozen HX.out 1
      go_wp2_with fail
      obtain ⟨W5, hW5⟩ : ∃ W5, w4.setCell ⟨nb, 1, none⟩ (.int .i64 zo) = W5 := ⟨_, rfl⟩
      rw [hW5]
      have HU := Lib.hid (HU.out.keep HKK.out (show Fr (fun b => nb ≤ b) w4 W5 by rw [← hW5]; exact (Fr.refl (fun b => nb ≤ b) w4).setCell (p := ⟨nb, 1, none⟩) (fun _ => Nat.le_refl _) _))
      have HX : Hid (W5.heap[nb]? = some (.cells #[.int .i64 nu, .int .i64 zo, .int .i64 0] 36)) := Lib.hid (by rw [← hW5, obj_set HX.out 1 _]; rfl)
      clear hW5 c0 f0
      refine (hT3.out W5 HU.out.tr).mono ?_
      rintro e w6 ⟨rfl, ht, hf⟩
      have HU := Lib.hid (HU.out.take (t' := t3) ht hf)
      have HX := Lib.hid (hf.at_ HX.out (fun e => hnn.out e.symm))
      clear ht hf
      have c0 := cell_obj HX.out 2 (.int .i64 0) rfl
      have f0 := obj_frozen HX.out 2
      go_wp2_with fail
      obtain ⟨W7, hW7⟩ : ∃ W7, w6.setCell ⟨nb, 2, none⟩ (.int .i64 ro) = W7 := ⟨_, rfl⟩
      rw [hW7]
      have HU := Lib.hid (HU.out.keep HKK.out (show Fr (fun b => nb ≤ b) w6 W7 by rw [← hW7]; exact (Fr.refl (fun b => nb ≤ b) w6).setCell (p := ⟨nb, 2, none⟩) (fun _ => Nat.le_refl _) _))
      have HX : Hid (W7.heap[nb]? = some (.cells #[.int .i64 nu, .int .i64 zo, .int .i64 ro] 36)) := Lib.hid (by rw [← hW7, obj_set HX.out 2 _]; rfl)
      clear hW7 c0 f0
      refine (hT4.out W7 HU.out.tr (by have := HU.out.tr.lt; omega)).mono ?_
      rintro e w8 ⟨iv, rfl, ho8, ht, hf, hok8⟩
      have hlo8 : n0 + 2 ≤ W7.heap.size := by have := (Array.getElem?_eq_some_iff.1 HX.out).1; have := hn0l.out; omega
      have HU := Lib.hid (HU.out.take (t' := t4) ht hf)
      have HX := Lib.hid (hf.at_ HX.out (fun e => hnn.out e.symm))
      obtain ⟨ia, ic, rfl⟩ := row_sl ho8
      have HO8 := Lib.hid ho8
      have HIL := Lib.hid (Il.own ho8 hok8)
      have HLO8 := Lib.hid hlo8
      clear ht hf ho8 hok8 hlo8
      have HPOST : Hid (∀ W', Fr (fun _ => False) w W' → Z = none → PP (.returned (.tuple #[.pointer none, .bool false])) W') := Lib.hid (fun W' hf e => by rw [← HPP.out, e]; exact ⟨hf, rfl⟩)
      cases okb with
      | false =>
        have hzn : Hid (Z = none) := Lib.hid (by rw [hstep.out, if_pos rfl]; rfl)
        go_wp2_with fail
        exact HPOST.out _ (HU.out.frF HN0.out) hzn.out
      | true =>
        have hstep2 : Hid (Z = unpEnd (if leftE ⟨nu, zo, ro, its⟩ < 0 then none else unpF (N - (k + 1)) t4 (ML.map BV.e ++ [⟨nu, zo, ro, its⟩]))) := Lib.hid (by rw [hstep.out, if_neg (by simp)])
        clear hstep
        obtain ⟨m, hm⟩ : ∃ m, its.length = m := ⟨_, rfl⟩
        have HM := Lib.hid hm
        rw [hm] at HO8 HIL ⊢
        have hbk : BOk w8 ⟨nu, zo, ro, .slice ia m ic, its⟩ := ⟨OK.out.1, OK.out.2.1, OK.out.2.2, HIL.out.1⟩
        have HBK := Lib.hid hbk
        obtain ⟨n2, hn2⟩ : ∃ n, w8.heap.size = n := ⟨_, rfl⟩
        obtain ⟨W9, hW9⟩ : ∃ W9, w8.alloc (.cells #[.int .i64 0, .int .i64 0, .int .i64 0, .slice none 0 0] 82) = W9 := ⟨_, rfl⟩
        have hf9 : Fr (fun _ => False) w8 W9 := by rw [← hW9]; exact (Fr.refl _ w8).alloc _
        have hx9 : W9.heap[n2]? = some (.cells #[.int .i64 0, .int .i64 0, .int .i64 0, .slice none 0 0] 82) := by rw [← hW9]; exact heap_at hn2.symm _
        have HF9 := Lib.hid hf9; have HX9 := Lib.hid hx9
        have x0 := cell_obj HX.out 0 (.int .i64 nu) rfl; have x1 := cell_obj HX.out 1 (.int .i64 zo) rfl; have x2 := cell_obj HX.out 2 (.int .i64 ro) rfl
        have c0 := cell_obj hx9 0 (.int .i64 0) rfl; have c1 := cell_obj hx9 1 (.int .i64 0) rfl; have c2 := cell_obj hx9 2 (.int .i64 0) rfl; have c3 := cell_obj hx9 3 (.slice none 0 0) rfl
        have f0 := obj_frozen hx9 0; have f1 := obj_frozen hx9 1; have f2 := obj_frozen hx9 2; have f3 := obj_frozen hx9 3
        have hn2l : nb < n2 := by have := (Array.getElem?_eq_some_iff.1 HX.out).1; omega
        have HN2 := Lib.hid hn2; have HN2L := Lib.hid hn2l
        obtain ⟨W10, hW10⟩ : ∃ W10, (((W9.setCell ⟨n2, 0, none⟩ (.int .i64 nu)).setCell ⟨n2, 1, none⟩ (.int .i64 zo)).setCell ⟨n2, 2, none⟩ (.int .i64 ro)).setCell ⟨n2, 3, none⟩ (.slice ia m ic) = W10 := ⟨_, rfl⟩
        have hF10 : Fr (fun _ => False) w8 W10 := by
          have : Fr (fun b => n2 ≤ b) w8 W10 := by
            rw [← hW10]
            exact Fr.setCell (S := fun b => n2 ≤ b) (Fr.setCell (S := fun b => n2 ≤ b) (Fr.setCell (S := fun b => n2 ≤ b) (Fr.setCell (S := fun b => n2 ≤ b) (hf9.mono (fun _ _ e => e.elim)) (p := ⟨n2, 0, none⟩) (fun _ => Nat.le_refl _) _) (p := ⟨n2, 1, none⟩) (fun _ => Nat.le_refl _) _) (p := ⟨n2, 2, none⟩) (fun _ => Nat.le_refl _) _) (p := ⟨n2, 3, none⟩) (fun _ => Nat.le_refl _) _
          exact this.mono (fun b hb e => by have e : n2 ≤ b := e; omega)
        have hX10 : W10.heap[n2]? = some (.cells #[.int .i64 nu, .int .i64 zo, .int .i64 ro, .slice ia m ic] 82) := by
          rw [← hW10, obj_set (obj_set (obj_set (obj_set hx9 0 _) 1 _) 2 _) 3 _]; rfl
        have d0 := cell_obj hX10 0 (.int .i64 nu) rfl; have d1 := cell_obj hX10 1 (.int .i64 zo) rfl; have d2 := cell_obj hX10 2 (.int .i64 ro) rfl; have d3 := cell_obj hX10 3 (.slice ia m ic) rfl
        have HF10 := Lib.hid hF10; have HX10 := Lib.hid hX10
        have hLe := Lib.hid (rLeft1 W10 ⟨nu, zo, ro, .slice ia m ic, its⟩ (hbk.keep hF10 (fun _ _ _ e => e)))
        have hle : leftE (BV.e ⟨nu, zo, ro, .slice ia m ic, its⟩) = leftE ⟨nu, zo, ro, its⟩ := rfl
        obtain ⟨LE, hLE⟩ : ∃ LE, leftE ⟨nu, zo, ro, its⟩ = LE := ⟨_, rfl⟩
        rw [hle, hLE] at hLe
        rw [hLE] at hstep2
        unfold BV.cs at hLe
        dsimp only at hLe
        clear hm hbk hf9 hx9 hF10 hX10 hle hLE hn2l
        by_cases hlt0 : LE < 0
        · have hzn : Hid (Z = none) := Lib.hid (by rw [hstep2.out, if_pos hlt0]; rfl)
          go_wp2_with (go_at_call 68; refine hLe.out.mono ?_; rintro e w11 ⟨rfl, hf11⟩; have HF11 := Lib.hid (HF10.out.trans hf11); clear hf11)
          exact HPOST.out _ ((HU.out.frF HN0.out).trans HF11.out) hzn.out
        · have hstep3 : Hid (unpEnd (unpF (N - (k + 1)) t4 (ML.map BV.e ++ [⟨nu, zo, ro, its⟩])) = Z) := Lib.hid (by rw [hstep2.out, if_neg hlt0])
          clear hstep2
          have HUA := Lib.hid (fun W (hf : Fr (fun _ => False) w8 W) => HU.out.keep HKK.out (hf.mono (fun _ _ e => e.elim)))
          have HBI : Hid (∀ W, Fr (fun _ => False) w8 W → W.ownsRow (n0 + 2) 36 3 (.slice la k lc) k (flat biC (ML.map bvI))) := Lib.hid (fun W hf => by have := (HUA.out W hf).bins; rw [HLEN.out] at this; exact this)
          go_wp2_with (first
            | (go_at_call 68; refine hLe.out.mono ?_; rintro e w11 ⟨rfl, hf11⟩; have HX11 := Lib.hid (hf11.at_ HX10.out (fun e => e)); have HB11 := Lib.hid ((HF10.out.trans hf11).at_ HX.out (fun e => e)); have HF11 := Lib.hid (HF10.out.trans hf11); have y0 := cell_obj HB11.out 0 (.int .i64 nu) rfl; have y1 := cell_obj HB11.out 1 (.int .i64 zo) rfl; have y2 := cell_obj HB11.out 2 (.int .i64 ro) rfl; clear hf11 x0 x1 x2 c0 c1 c2 c3 f0 f1 f2 f3 d0 d1 d2 d3 hW9 hW10 hn2)
            | (at_builtin; refine wpList_append_src rfl _ _ 22 rfl (n0 + 2) 36 i0 (.agg #[.int .i64 0, .int .i64 0, .int .i64 0]) 24 Tryz.underlying22 hi' hz0 hz1 hz2 rfl (by decide) (.slice la k lc) k (flat biC (ML.map bvI)) rfl (((Fr.refl (fun _ => False) w11).alloc _).row (HBI.out w11 HF11.out) (fun _ _ e => e)) 1 rfl (rd_obj (cs := [.int .i64 nu, .int .i64 zo, .int .i64 ro]) (heap_new _ _) rfl) (by intro u hu; simp only [List.mem_cons, List.not_mem_nil, or_false] at hu; rcases hu with rfl | rfl | rfl <;> rfl) (by unfold maxLen; omega) (by omega) (by have := HLO8.out; have := HF11.out.size; have := (Array.getElem?_eq_some_iff.1 HB11.out).1; have := hn0l.out; simp; omega) ?_; intro v12 w12 hown12 hgrow12 hloc12; have HO12 := Lib.hid hown12; have HG12 := Lib.hid ((((Fr.refl (fun c => (Value.slice la k lc).ownBlock = some c) w11).alloc _).trans' (Fr.grown (S := fun c => (Value.slice la k lc).ownBlock = some c) hgrow12 (fun r hr _ => hr)) (fun _ _ e => e))); clear hown12 hgrow12 hloc12))
          have hU11 := HUA.out w11 HF11.out
          have hvl : ∀ c, (Value.slice la k lc).ownBlock = some c → n0 + 2 ≤ c ∧ c < nb := fun c hc => ⟨(hU11.bins.lt c hc).1, hU11.lt.2.1 c hc⟩
          have hgo12 := HG12.out.at_ hU11.flo (fun e => by have := (hvl _ e).1; omega)
          have hx12 := HG12.out.at_ HX11.out (fun e => by have := (hvl _ e).2; have := HN2L.out; omega)
          have hrow12 := hU11.rows1 HG12.out
          rw [HLEN.out] at hrow12
          obtain ⟨la2, lc2, rfl⟩ := row_sl HO12.out
          have g0 := cell_obj hgo12 0 (.slice ra k rc) rfl
          have r0 := cell_obj hx12 0 (.int .i64 nu) rfl; have r1 := cell_obj hx12 1 (.int .i64 zo) rfl; have r2 := cell_obj hx12 2 (.int .i64 ro) rfl; have r3 := cell_obj hx12 3 (.slice ia m ic) rfl
          have HU11 := Lib.hid hU11; have HGO12 := Lib.hid hgo12; have HROW12 := Lib.hid hrow12
          have hsz12 : Hid (n0 + 2 ≤ w12.heap.size) := Lib.hid (by have := (Array.getElem?_eq_some_iff.1 hx12).1; have := HN2L.out; have := hn0l.out; omega)
          clear hU11 hvl hgo12 hx12 hrow12 y0 y1 y2
          refine wp_region_eff [(6, true), (7, false), (10, false)] [0, 1, 8, 9] 8 (by kernel_rfl) rfl (by kernel_rfl) (by kernel_rfl) ?_
          apply Exists.intro
          refine ⟨?hh, ?pu, ?ef⟩
          case hh =>
            intro X
            have g0 := FrW.cell (X.fr.cell g0 (fun e => e)); have r0 := FrW.cell (X.fr.cell r0 (fun e => e)); have r1 := FrW.cell (X.fr.cell r1 (fun e => e)); have r2 := FrW.cell (X.fr.cell r2 (fun e => e)); have r3 := FrW.cell (X.fr.cell r3 (fun e => e))
            simp (config := { decide := true }) only [boxedF, efIdx, List.map_cons, List.map_nil, idleU, if_true, if_false, ite_true, ite_false]
            repeat (go_big_quiet_step (fail))
            exact wpQuiet_nil rfl
          case pu =>
            intro i' hi' o ho
            simp only [List.mem_cons, List.not_mem_nil, or_false] at hi'
            rcases hi' with rfl | rfl | rfl | rfl
            all_goals
              cases ho
              apply Exists.intro
              intro w'
              simp [execOp, Act.eval, go_sem]
              try exact rfl
          case ef =>
            simp only [efOps, List.filterMap_cons, List.filterMap_nil, List.getElem?_cons_succ, List.getElem?_cons_zero, Option.map_some]
            clear g0 r0 r1 r2 r3
            intro w13 hw13
            have HW13 := Lib.hid hw13
            clear hw13
            go_wp2_with fail
            refine ⟨(Fr.refl _ _).alloc _, ?_⟩
            intro w14 hw14
            have HW14 := Lib.hid hw14
            have hf24 : Fr (fun _ => False) w12 w14 := HW13.out.trans (((Fr.refl (fun _ => False) w13).alloc _).trans hw14)
            have HF24 := Lib.hid hf24
            have hsz4 : n0 + 2 ≤ w14.heap.size := by have := hf24.size; have := hsz12.out; omega
            have HSZ4 := Lib.hid hsz4
            clear hw14 hf24 hsz4
            go_wp2_with (at_builtin; refine wpList_append_src rfl _ _ 83 rfl (n0 + 2) 82 j0 (.agg #[.int .i64 0, .int .i64 0, .int .i64 0, .slice none 0 0]) 48 Tryz.underlying83 hj' hy0 hy1 hy2 rfl (by decide) (.slice ra k rc) k (flat BV.cs ML) rfl (HF24.out.row HROW12.out (fun _ _ e => e)) 1 rfl (rd_obj (cs := [.int .i64 nu, .int .i64 zo, .int .i64 ro, .slice ia m ic]) (HW14.out.at_ (heap_new _ _) (fun e => e)) rfl) (by intro u hu; simp only [List.mem_cons, List.not_mem_nil, or_false] at hu; rcases hu with rfl | rfl | rfl | rfl <;> rfl) (by unfold maxLen; omega) (by omega) HSZ4.out ?_; intro v15 w15 hown15 hgrow15 hloc15; have HO15 := Lib.hid hown15; have HG15 := Lib.hid (Fr.grown (S := fun c => (Value.slice ra k rc).ownBlock = some c) hgrow15 (fun c hc _ => hc)); obtain ⟨a15, c15, rfl⟩ := row_sl hown15; clear hown15 hgrow15 hloc15)
            intro w16 hw16
            have hlt : ∀ c, (Value.slice ra k rc).ownBlock = some c → n0 + 2 ≤ c := fun c hc => (HROW12.out.lt c hc).1
            have hgo16 := hw16.at_ (HG15.out.at_ (HF24.out.at_ HGO12.out (fun e => e)) (fun e => by have := hlt (n0 + 1) e; omega)) (fun e => e)
            have gf := obj_frozen hgo16 0
            have g0 := cell_obj hgo16 0 (.slice ra k rc) rfl
            have HO16 := Lib.hid (hw16.row HO15.out (fun _ _ e => e))
            have HGO16 := Lib.hid hgo16
            have HF16 : Hid (Fr (fun c => (Value.slice ra k rc).ownBlock = some c) w12 w16) := Lib.hid (((HF24.out.mono (fun _ _ e => e.elim)).trans HG15.out).trans (hw16.mono (fun _ _ e => e.elim)))
            clear hw16 hlt hgo16
            go_wp2_with fail
            have hfs : Fr (fun c => c = n0 + 1) w16 (w16.setCell ⟨n0 + 1, 0, none⟩ (.slice a15 (k + 1) c15)) := (Fr.refl (fun c => c = n0 + 1) w16).setCell (p := ⟨n0 + 1, 0, none⟩) (fun _ => rfl) _
            have hgo17 := obj_set HGO16.out 0 (.slice a15 (k + 1) c15)
            obtain ⟨W17, hW17⟩ : ∃ W, w16.setCell ⟨n0 + 1, 0, none⟩ (.slice a15 (k + 1) c15) = W := ⟨_, rfl⟩
            rw [hW17] at hgo17 hfs ⊢
            have hm11 := HM.out
            have hbk11 : BOk w11 ⟨nu, zo, ro, .slice ia m ic, its⟩ := HBK.out.keep HF11.out (fun _ _ _ e => e)
            have hpush := HU11.out.push (vl' := .slice la2 (k + 1) lc2) (vr' := .slice a15 (k + 1) c15) (b := ⟨nu, zo, ro, .slice ia m ic, its⟩) HKK.out hbk11 (fun hne c hc => by
              obtain ⟨cur, hcur⟩ := own_ty HO8.out hc
              exact ⟨by have := (HO8.out.lt c hc).1; have := HLO8.out; omega, cur, HF11.out.at_ hcur (fun e => e)⟩) HG12.out (by rw [HLEN.out]; exact HO12.out) HF16.out (by rw [HLEN.out]; exact HO16.out) hfs hgo17
            have HPU := Lib.hid hpush
            clear g0 gf hfs hgo17 hW17 hpush hbk11 hm11
            intro w18 hw18
            have HPU8 := Lib.hid (HPU.out.keep HKK.out (hw18.mono (fun _ _ e => e.elim)))
            clear hw18
            go_wp2_with fail
            go_roundw
            case rel => exact ⟨k + 1, _, t4, _, _, by omega, by go_num, HPU8.out, by rw [List.map_append]; exact hstep3.out, by simp [HLEN.out]⟩
            case measure => simp [intOf]; omega
    · have hZe : Z = if t.2 = false ∧ t.1.length = 0 ∧ mayBs (ML.map bvI) = true then some (ML.map BV.e) else none := by
        have e1 : unpF (N - k) t (ML.map BV.e) = some (ML.map BV.e, t) := by
          by_cases e : t.2 = true
          · cases N - k with
            | zero => rfl
            | succ j => show (if t.2 = true then _ else _) = _; rw [if_pos e]
          · have : N - k = 0 := by
              by_cases h : k < N
              · exact absurd ⟨h, by simpa using e⟩ hgo
              · omega
            rw [this]; rfl
        rw [← HFIN.out, e1]
        show (if t.2 = false ∧ t.1.length = 0 ∧ mayBs ((ML.map BV.e).map binI) = true then some (ML.map BV.e) else none) = _
        rw [bvI_e]
      have HPN : Hid (∀ W', Fr (fun _ => False) w W' → Z = none → PP (.returned (.tuple #[.pointer none, .bool false])) W') := Lib.hid (fun W' hf e => by rw [← HPP.out, e]; exact ⟨hf, rfl⟩)
      cases hb : t.2 with
      | true =>
        rw [hb] at b1 hZe
        have hzn : Hid (Z = none) := Lib.hid (by rw [hZe, if_neg]; rintro ⟨e, -⟩; cases e)
        clear hZe
        by_cases hlt : k < N
        · have hkI : (k : Int) < N := by omega
          clear hgo
          go_wp2_with fail
          exact HPN.out _ (HU.out.frF HN0.out) hzn.out
        · have hkI : ¬ (k : Int) < N := by omega
          clear hgo
          go_wp2_with fail
          exact HPN.out _ (HU.out.frF HN0.out) hzn.out
      | false =>
        rw [hb] at b1 hZe
        have hkN : k = N := by
          by_cases h : k < N
          · exact absurd ⟨h, hb⟩ hgo
          · omega
        subst hkN
        have hkI : ¬ (k : Int) < k := by omega
        obtain ⟨tl, htl2⟩ : ∃ tl, t.1.length = tl := ⟨_, rfl⟩
        rw [htl2] at b0 hZe htl
        clear hgo
        by_cases htz : tl = 0
        · have hS : Sbi wr (.slice la k lc) (ML.map bvI) := by
            have := HU.out.bins
            exact Sq.own biSize (by rw [List.length_map]; exact this) (fun x hx => by
              obtain ⟨y, hy, rfl⟩ := List.mem_map.1 hx
              have := (HU.out.its y hy).1
              exact ⟨this.nu, this.zo, this.ro⟩)
          have hM := Lib.hid (rMay wr _ _ hS)
          obtain ⟨mb, hmb⟩ : ∃ mb, mayBs (ML.map bvI) = mb := ⟨_, rfl⟩
          have HMB := Lib.hid hmb
          rw [hmb] at hM hZe
          subst htz
          cases mb with
          | false =>
            have hzn : Hid (Z = none) := Lib.hid (by rw [hZe, if_neg]; rintro ⟨-, -, e⟩; cases e)
            clear hZe hmb hS
            go_wp2_with (go_at_call 12; refine hM.out.mono ?_; rintro e w2 ⟨rfl, hf2⟩; have HF2 := Lib.hid hf2; clear hf2)
            exact HPN.out _ ((HU.out.frF HN0.out).trans HF2.out) hzn.out
          | true =>
            have hzs : Hid (Z = some (ML.map BV.e)) := Lib.hid (by rw [hZe, if_pos ⟨rfl, rfl, rfl⟩])
            clear hZe hmb hS
            go_wp2_with (go_at_call 12; refine hM.out.mono ?_; rintro e w2 ⟨rfl, hf2⟩; have HF2 := Lib.hid hf2; clear hf2)
            rw [← HPP.out, hzs.out]
            have hU2 := HU.out.keep HKK.out (HF2.out.mono (fun _ _ e => e.elim))
            have hlp : 0 < ML.length := by have := (mayBs_ok HMB.out).2.1; rw [List.length_map] at this; exact this
            exact ⟨hU2.frF HN0.out, n0 + 1, _, ML, rfl, hU2.ra hlp, rfl, fun b hb => by have := HN0.out; have := hb.1; omega⟩
        · have hzn : Hid (Z = none) := Lib.hid (by rw [hZe, if_neg]; rintro ⟨-, e, -⟩; exact htz e)
          have htp : (0 : Int) < (tl : Int) := by omega
          clear hZe
          go_wp2_with fail
          exact HPN.out _ (HU.out.frF HN0.out) hzn.out
end Go.Proofs.YtlniekobijcanaaGreat
namespace Go.Proofs.YtlniekobijcanaaGreat
open Go.RowKit
section
variable {F : Fence} {n : Nat} {P : Program} {ops : Array Oper} {Q : Exit → Act → World → Prop} {md : Region.Mode}
/-- The operation is no 'defer'. -/
def notDefer (o : Oper) : Bool := match o.op with | .defer _ => false | _ => true
theorem notDefer_spec {o : Oper} (h : notDefer o = true) : ∀ c, o.op ≠ .defer c := fun c e => by
  unfold notDefer at h
  rw [e] at h
  cases h
theorem uponIn_inRound (l : Nat) {o : Oper} {a : Act} {next : Act → World → Prop} {r : Result Next} (h : o.uponIn F n P a next Q r) : o.uponIn (F.inRound l) n P a next Q r := h
theorem wpOpIn_inRound (l : Nat) (hro : F.round = none) (hnd : ∀ o ∈ ops, notDefer o = true) {i : Nat} {K : Act → World → Prop} {a : Act} {w : World} (hh : wpOpIn F n P ops Q i K a w) : wpOpIn (F.inRound l) n P ops Q i K a w := by
  unfold wpOpIn at *
  split
  · rename_i ho; simp only [ho] at hh; exact hh
  · rename_i o ho
    simp only [ho] at hh
    split
    · rename_i hw
      simp only [hw, if_true] at hh
      have hd := notDefer_spec (hnd o (Array.mem_of_getElem? ho))
      refine ⟨hh.1, ?_⟩
      have h2 := hh.2
      rw [hro, Oper.semAt_eq _ _ _ hd] at h2
      rw [Oper.semAt_eq _ _ _ hd]
      exact uponIn_inRound l h2
    · rename_i hw; simp only [hw] at hh; exact hh
theorem wpAnyIn_inRound (l : Nat) (hro : F.round = none) (hnd : ∀ o ∈ ops, notDefer o = true) : ∀ (fuel : Nat) (listed : Array Bool) (a : Act) (w : World), wpAnyIn F n P md ops Q fuel listed a w → wpAnyIn (F.inRound l) n P md ops Q fuel listed a w
  | 0, _, _, _, h => h
  | fuel + 1, _, _, _, h => ⟨h.1, fun i hi => wpOpIn_inRound l hro hnd (wpOpIn_mono (fun a w => wpAnyIn_inRound l hro hnd fuel _ a w) (h.2 i hi))⟩
theorem wpIn_region_quiet_round {C : World → Prop} {id l : Nat} {a : Act} {w : World} (hro : F.round = none) (hm : P.follows .mixedOrders = true) (hB : Region.lexB .any ops = true) (hnd : ops.all notDefer = true) (hC : C { w with drawn := w.drawn + 1 })
    (h : wpQuietIn F n P ops C (fun a' => ∀ w', C w' → Q .normal a' w') ops.toList a) : (Code.region id ops true).wpIn (F.inRound l) n P Q a w := by
  have hnd' : ∀ o ∈ ops, notDefer o = true := fun o ho => Array.all_eq_true_iff_forall_mem.1 hnd o ho
  simp only [Region.lexB, Bool.and_eq_true] at hB
  refine wpIn_region_any hm (wpAnyIn_inRound l hro hnd' _ _ _ _ (wpAnyIn_of_quiet (Q := fun a' => ∀ w', C w' → Q .normal a' w') hro (fun _ w' hw' h => h w' hw') _ _ _ _ hC ?_))
  have := wpAnyQIn_lex (F := F) (n := n) (C := C) (md := .any) hB.1 ops.toList 0 (Array.replicate ops.size false) a (by simp) (by simpa using hB.2) h
  simpa using this
theorem wpIn_region_fr_round {id l : Nat} {a : Act} {w : World} {L : List Oper} (hm : P.follows .mixedOrders = true) (hB : Region.lexB .any L.toArray = true) (hnd : L.toArray.all notDefer = true)
    (h : wpQuietIn Fence.wide n P L.toArray (fun w' => ∃ X : FrW w, w' = X.val) (fun a' => ∀ w', (∃ X : FrW w, w' = X.val) → Q .normal a' w') L a) : (Code.region id L.toArray true).wpIn (Fence.wide.inRound l) n P Q a w :=
  wpIn_region_quiet_round (F := Fence.wide) (C := fun w' => ∃ X : FrW w, w' = X.val) rfl hm hB hnd ⟨⟨_, (Fr.refl _ w).drew⟩, rfl⟩ (by simpa using h)
end
end Go.Proofs.YtlniekobijcanaaGreat
namespace Go.Proofs.YtlniekobijcanaaGreat
open Go.RowKit Go.Maps
set_option maxRecDepth 100000 in
set_option maxHeartbeats 4000000 in
theorem bBins2 (S : Nat → Prop) (w : World) (Bt g : Nat) (TS : Nat → Prop) (L : List BV) (hBt : Boxed w Bt 25 (.pointer (some ⟨g, 0, none⟩))) (hA : FA w g TS L) (hL : 0 < L.length) (n1 : ∀ b, TS b → ¬ S b) :
    ItX 83 #[.pointer (some ⟨Bt, 0, none⟩)] encB L S w := by
  intro lp S' J Jx W hW hS' hJ hY hJx h0
  have hBW := boxed_below hBt hW hBt.lt
  have s2 : ∀ b, TS b → ¬ S' b := fun b hb e => n1 b hb ((hS' b e).2 (hA.lt b hb))
  have h := hA.fl
  have hcB := hBW.cell
  have hFW := h.fr (Fr.below (S := fun _ => False) hW) (fun _ e => e.elim)
  have hm := Lib.hid (bMade W g L hFW hL)
  obtain ⟨a, c, q1, q2⟩ := h
  have hNb := q2.len
  obtain ⟨N, hN⟩ : ∃ N, L.length = N := ⟨_, rfl⟩
  rw [hN] at q1 q2 hNb
  have c0 := cell_obj ((Fr.below (S := fun _ => False) hW).at_ q1 (fun e => e)) 0 (.slice a N c) rfl
  have HN := Lib.hid hN; have HW := Lib.hid hW; have HY := Lib.hid hY
  have hfn : ∀ f, Fence.wide.fn f := fun _ => trivial
  have hdp : Fence.wide.depth.isSome = false := rfl
  have hlow : Hid (∀ W', Fr (fun b => S' b ∨ w.heap.size ≤ b) w W' → Bl W' (.slice a N c) L) := Lib.hid (fun W' hf => by
    obtain ⟨a', c', k1, k2⟩ := (hA.fr hf (fun b hb e => e.elim (s2 b hb) (fun e => by have := hA.lt b hb; omega))).fl
    have k3 := hf.at_ q1 (fun e => e.elim (s2 g hA.own) (fun e => by have := hA.lt g hA.own; omega))
    rw [k1] at k3
    injection k3 with k3
    injection k3 with k3 _
    injection k3 with k3
    injection k3 with k3 _
    rw [hN] at k3 k2
    rw [k3] at k2
    exact k2)
  clear hBt n1 hS' hBW s2 hN q1 q2 hL hW hFW hY hA
  refine (callsIn_wide (n := 0)).1 ?_
  refine callsIn_of_wp Tryz.func83 rfl trivial ?_ rfl
  simp only [Tryz.ntmps83, List.size_toArray, List.length_cons, List.length_nil, Nat.reduceAdd, Nat.reduceSub, Array.replicate_succ, Array.replicate_zero, List.push_toArray, List.append_toArray, List.nil_append, List.cons_append]
  gi_wp2_with (gi_at_call 57; refine (callsIn_wide.2 hm.out).mono ?_; rintro e w1 ⟨rfl, rfl⟩)
  gi_loopw [13] (fun i wr => ∃ (k : Nat) (C : Nat → Prop), k ≤ N ∧ i = .int .i64 k ∧ J k C wr ∧ (∀ b, C b → W.heap.size ≤ b ∧ b < wr.heap.size) ∧ Fr (fun b => S' b ∨ C b) W wr) (fun i _ => N - (intOf i).toNat)
  case atStart => exact ⟨0, _, Nat.zero_le _, rfl, h0, fun _ h => False.elim h, Fr.refl _ _⟩
  case round =>
    obtain ⟨k, C, hk, rfl, hJr, hC, hkp⟩ := hrel
    by_cases hlt : k < N
    · obtain ⟨x, hx⟩ : ∃ x, L[k]? = some x := ⟨L[k]'(by rw [HN.out]; exact hlt), List.getElem?_eq_getElem _⟩
      have hfr : Fr (fun b => S' b ∨ w.heap.size ≤ b) w wr := (Fr.below (S := fun b => S' b ∨ w.heap.size ≤ b) HW.out).trans' hkp (fun b hb e => e.elim .inl (fun e => .inr (by have := (hC b e).1; have := HW.out.size; omega)))
      obtain ⟨ad, rfl, hok, z0, zs⟩ := (hlow.out wr hfr).at_ hx
      obtain ⟨la, lc, hl⟩ := hok.l.sl
      have x0 := z0 (.int .i64 x.nu) rfl
      have x1 := zs 0 (.int .i64 x.zo) rfl
      have x2 := zs 1 (.int .i64 x.ro) rfl
      have x3 := zs 2 x.l rfl
      dsimp only [Nat.zero_add, Nat.reduceAdd] at x0 x1 x2 x3
      rw [hl] at x3
      have hlI : (k : Int) < N := by omega
      obtain ⟨W2, hW2⟩ : ∃ W2, wr.alloc (.cells #[.int .i64 x.nu, .int .i64 x.zo, .int .i64 x.ro, .slice la x.its.length lc] 76) = W2 := ⟨_, rfl⟩
      have hJ2 := hJ _ C _ _ hJr (frAlloc (B := W.heap.size) (.cells #[.int .i64 x.nu, .int .i64 x.zo, .int .i64 x.ro, .slice la x.its.length lc] 76))
      obtain ⟨fn, tmps, assign, body, hy, hR⟩ := HY.out _ x C _ hx hJ2
      dsimp only [encB] at hy
      have HR := Lib.hid hR; have HC := Lib.hid hC; have HK := Lib.hid hkp; have HX := Lib.hid hx; have HJR := Lib.hid hJr
      clear hfr hok z0 zs hl hJ2 hR hC hkp hx hJr hW2
      gi_wp2
      refine HR.out.mono ?_
      rintro e W3 (⟨rfl, hJ3, hk3⟩ | ⟨rfl, hJx3, _⟩)
      · have HJ3 := Lib.hid hJ3; have HK3 := Lib.hid hk3
        clear hJ3 hk3
        gi_wp2
        go_roundw
        case rel =>
          refine ⟨k + 1, _, by omega, by go_num, HJ3.out, ?_, ?_⟩
          · have hs3 := HK3.out.size
            simp at hs3
            rintro b (e | e)
            · have := HC.out b e; exact ⟨this.1, by omega⟩
            · have := HK.out.size
              have e1 := e.1
              simp at e1
              exact ⟨by omega, e.2⟩
          · exact ((HK.out.alloc _).mono (fun b _ e => e.elim .inl (fun e => .inr (.inl e)))).trans (HK3.out.mono (fun b _ e => e.elim .inl (fun e => .inr (.inl e))))
        case measure => simp [intOf]; omega
      · gi_wp2
        refine bodyPost_ret (results_none rfl _ _ _) rfl ?_
        refine ⟨⟨_, rfl⟩, .inr ⟨_, _, ?_, hJx3⟩⟩
        have := (List.getElem?_eq_some_iff.1 HX.out).1
        omega
    · have : k = N := by omega
      subst this
      gi_wp2
      go_end0
      exact ⟨⟨_, rfl⟩, .inl ⟨C, by rw [HN.out]; exact hJr⟩⟩
end Go.Proofs.YtlniekobijcanaaGreat
namespace Go.Proofs.YtlniekobijcanaaGreat
open Go.ChangeShapes Go.WideShapes Go.RowKit Go.Maps
section
variable {H : Type} {enc : TypeId × Value → H} {w : World} {base : Nat} {spare : Nat → Bool} {held : Bool}
theorem leaf_str {P : Program} {t : TypeId} {n : Nat} {v : Value} {y : DataW H × List MemPlace} (ht : P.underlying t = some .string) (h : DataW.trod enc P w base spare held n t [v] = some y) : ∃ s : Str, v = vS s ∧ okS s := by
  obtain ⟨s, e, _, hs⟩ := DataW.trod_string ht h
  injection e with e _
  refine ⟨s.data.toList, e, ?_⟩
  unfold okS
  exact hs
set_option maxRecDepth 100000 in
theorem leaf_items {n : Nat} {v : Value} {y : DataW H × List MemPlace} (h : DataW.trod enc Tryz.prog w base spare held n 65 [v] = some y) : ∃ L, Il w v L := by
  obtain ⟨len, hmax, hs⟩ := leaf_slice (d := 1) Tryz.underlying65 (by kernel_rfl) (by kernel_rfl) h
  have hmax : len ≤ 9223372036854775807 := hmax
  rcases hs with ⟨rfl, rfl⟩ | ⟨a, cap, rfl, hl, hb, hi⟩
  · exact ⟨[], by simp, none, 0, rfl, fun i p hp => by simp at hp⟩
  · have key : ∀ i, i < len → ∃ p : Str × Int, okS p.1 ∧ okI p.2 ∧ w.cell? (a.add (i * 2)) = some (vS p.1) ∧ w.cell? ⟨(a.add (i * 2)).block, (a.add (i * 2)).off + 1, none⟩ = some (.int .i64 p.2) := fun i hil => by
      obtain ⟨u, m, y, hc, ht⟩ := hi i hil 0 9 (by kernel_rfl)
      obtain ⟨u', m', y', hc', ht'⟩ := hi i hil 1 3 (by kernel_rfl)
      obtain ⟨s, rfl, hs⟩ := leaf_str Tryz.underlying9 ht
      obtain ⟨x, rfl, hx⟩ := leaf_i64 Tryz.underlying3 ht'
      have e : (leaves Tryz.prog 1 124).length = 2 := by kernel_rfl
      rw [e] at hc hc'
      exact ⟨(s, x), hs, hx, hc, by rw [← add_field]; exact hc'⟩
    obtain ⟨X, hX⟩ := Go.Deep.choose_lt key
    refine ⟨(List.range len).map X, (by rw [List.length_map, List.length_range]; exact hmax), some a, cap, (by rw [List.length_map, List.length_range]), fun i p hp => ?_⟩
    rw [List.getElem?_map] at hp
    obtain ⟨i', hi', rfl⟩ := Option.map_eq_some_iff.1 hp
    obtain ⟨hlt, e⟩ := List.getElem?_eq_some_iff.1 hi'
    rw [List.getElem_range] at e
    subst e
    obtain ⟨x0, x1, x2, x3⟩ := hX i (by simpa using hlt)
    exact ⟨x0, x1, a, rfl, x2, x3⟩
set_option maxRecDepth 100000 in
theorem open_items {r : Reach} {b0 : Nat} {v : Value} {d : DataW H} {p : List MemPlace} (hv : Value.okWide Tryz.prog w r b0 65 v) (h : DataW.Trod enc Tryz.prog w base spare held 65 v d p) : ∃ L, Il w v L := by
  obtain ⟨fuel, h⟩ := h
  obtain ⟨a0, l0, c0, rfl⟩ := okWide_slice Tryz.underlying65 hv
  have h' := h
  simp only [Value.cells] at h'
  exact leaf_items (n := fuel) (v := .slice a0 l0 c0) h'
end
end Go.Proofs.YtlniekobijcanaaGreat
namespace Go.Proofs.YtlniekobijcanaaGreat
open Go.ChangeShapes Go.WideShapes Go.RowKit Go.Maps
/-- An Op. -/
structure BOp where
  kd : Int
  g : Str
  n : Int
  b : Int
  t : Int
def bopC (o : BOp) : Array Value := #[.int .i64 o.kd, vS o.g, .int .i64 o.n, .int .i64 o.b, .int .i64 o.t]
def okBop (_ : World) (o : BOp) : Prop := okI o.kd ∧ okS o.g ∧ okI o.n ∧ okI o.b ∧ okI o.t
theorem bopSize (o : BOp) : (bopC o).size = 5 := rfl
section
variable {H : Type} {enc : TypeId × Value → H} {w : World} {base : Nat} {spare : Nat → Bool} {held : Bool}
set_option maxRecDepth 100000 in
theorem open_bop (cell : Nat → Option Value) (h : ∀ (j : Nat) (t : TypeId), (leaves Tryz.prog 2 53)[j]? = some t → ∃ (u : Value) (m : Nat) (y : DataW H × List MemPlace), cell j = some u ∧ DataW.trod enc Tryz.prog w base spare held m t [u] = some y) :
    ∃ r : BOp, okBop w r ∧ ∀ (j : Nat) (u : Value), (bopC r)[j]? = some u → cell j = some u := by
  obtain ⟨u0, m0, y0, c0, t0⟩ := h 0 3 (by kernel_rfl)
  obtain ⟨u1, m1, y1, c1, t1⟩ := h 1 9 (by kernel_rfl)
  obtain ⟨u2, m2, y2, c2, t2⟩ := h 2 3 (by kernel_rfl)
  obtain ⟨u3, m3, y3, c3, t3⟩ := h 3 3 (by kernel_rfl)
  obtain ⟨u4, m4, y4, c4, t4⟩ := h 4 3 (by kernel_rfl)
  obtain ⟨x0, rfl, k0⟩ := leaf_i64 Tryz.underlying3 t0
  obtain ⟨s, rfl, k1⟩ := leaf_str Tryz.underlying9 t1
  obtain ⟨x2, rfl, k2⟩ := leaf_i64 Tryz.underlying3 t2
  obtain ⟨x3, rfl, k3⟩ := leaf_i64 Tryz.underlying3 t3
  obtain ⟨x4, rfl, k4⟩ := leaf_i64 Tryz.underlying3 t4
  refine ⟨⟨x0, s, x2, x3, x4⟩, ⟨k0, k1, k2, k3, k4⟩, fun j u hu => ?_⟩
  match j, hu with
  | 0, hu => cases hu; exact c0
  | 1, hu => cases hu; exact c1
  | 2, hu => cases hu; exact c2
  | 3, hu => cases hu; exact c3
  | 4, hu => cases hu; exact c4
  | j + 5, hu => simp [bopC] at hu
set_option maxRecDepth 100000 in
theorem open_place (cell : Nat → Option Value) (h : ∀ (j : Nat) (t : TypeId), (leaves Tryz.prog 2 55)[j]? = some t → ∃ (u : Value) (m : Nat) (y : DataW H × List MemPlace), cell j = some u ∧ DataW.trod enc Tryz.prog w base spare held m t [u] = some y) :
    ∃ r : PV, okPv w r ∧ ∀ (j : Nat) (u : Value), (pvC r)[j]? = some u → cell j = some u := by
  obtain ⟨u0, m0, y0, c0, t0⟩ := h 0 3 (by kernel_rfl)
  obtain ⟨u1, m1, y1, c1, t1⟩ := h 1 9 (by kernel_rfl)
  obtain ⟨u2, m2, y2, c2, t2⟩ := h 2 3 (by kernel_rfl)
  obtain ⟨x0, rfl, k0⟩ := leaf_i64 Tryz.underlying3 t0
  obtain ⟨s, rfl, k1⟩ := leaf_str Tryz.underlying9 t1
  obtain ⟨x2, rfl, k2⟩ := leaf_i64 Tryz.underlying3 t2
  refine ⟨⟨x0, s, x2⟩, ⟨k0, k1, k2⟩, fun j u hu => ?_⟩
  match j, hu with
  | 0, hu => cases hu; exact c0
  | 1, hu => cases hu; exact c1
  | 2, hu => cases hu; exact c2
  | j + 3, hu => simp [pvC] at hu
set_option maxRecDepth 100000 in
theorem open_bi (cell : Nat → Option Value) (h : ∀ (j : Nat) (t : TypeId), (leaves Tryz.prog 2 36)[j]? = some t → ∃ (u : Value) (m : Nat) (y : DataW H × List MemPlace), cell j = some u ∧ DataW.trod enc Tryz.prog w base spare held m t [u] = some y) :
    ∃ r : BI, okBi w r ∧ ∀ (j : Nat) (u : Value), (biC r)[j]? = some u → cell j = some u := by
  obtain ⟨u0, m0, y0, c0, t0⟩ := h 0 3 (by kernel_rfl)
  obtain ⟨u1, m1, y1, c1, t1⟩ := h 1 3 (by kernel_rfl)
  obtain ⟨u2, m2, y2, c2, t2⟩ := h 2 3 (by kernel_rfl)
  obtain ⟨x0, rfl, k0⟩ := leaf_i64 Tryz.underlying3 t0
  obtain ⟨x1, rfl, k1⟩ := leaf_i64 Tryz.underlying3 t1
  obtain ⟨x2, rfl, k2⟩ := leaf_i64 Tryz.underlying3 t2
  refine ⟨⟨x0, x1, x2⟩, ⟨k0, k1, k2⟩, fun j u hu => ?_⟩
  match j, hu with
  | 0, hu => cases hu; exact c0
  | 1, hu => cases hu; exact c1
  | 2, hu => cases hu; exact c2
  | j + 3, hu => simp [biC] at hu
set_option maxRecDepth 100000 in
theorem open_bop1 {r : Reach} {b0 : Nat} {v : Value} {d : DataW H} {p : List MemPlace} (hv : Value.okWide Tryz.prog w r b0 53 v) (h : DataW.Trod enc Tryz.prog w base spare held 53 v d p) : ∃ r : BOp, v = .agg (bopC r) ∧ okBop w r :=
  open_one (cs := bopC) (ok := okBop) (k := 5) (d := 2) Tryz.underlying53 (by kernel_rfl) (by kernel_rfl) bopSize open_bop hv h
set_option maxRecDepth 100000 in
theorem open_bops {r : Reach} {b0 : Nat} {v : Value} {d : DataW H} {p : List MemPlace} (hv : Value.okWide Tryz.prog w r b0 50 v) (h : DataW.Trod enc Tryz.prog w base spare held 50 v d p) : ∃ L, Sq 5 bopC okBop w v L :=
  open_sq (d := 2) Tryz.underlying50 (by kernel_rfl) (by kernel_rfl) (by kernel_rfl) open_bop hv h
set_option maxRecDepth 100000 in
theorem open_places {r : Reach} {b0 : Nat} {v : Value} {d : DataW H} {p : List MemPlace} (hv : Value.okWide Tryz.prog w r b0 23 v) (h : DataW.Trod enc Tryz.prog w base spare held 23 v d p) : ∃ L, Pl w v L :=
  open_sq (d := 2) Tryz.underlying23 (by kernel_rfl) (by kernel_rfl) (by kernel_rfl) open_place hv h
set_option maxRecDepth 100000 in
theorem open_bis {r : Reach} {b0 : Nat} {v : Value} {d : DataW H} {p : List MemPlace} (hv : Value.okWide Tryz.prog w r b0 22 v) (h : DataW.Trod enc Tryz.prog w base spare held 22 v d p) : ∃ L, Sbi w v L :=
  open_sq (d := 2) Tryz.underlying22 (by kernel_rfl) (by kernel_rfl) (by kernel_rfl) open_bi hv h
end
end Go.Proofs.YtlniekobijcanaaGreat
namespace Go.Proofs.YtlniekobijcanaaGreat
open Go.RowKit Go.Maps
def sumW (f : BE → Int) (M : List BE) : Int := (M.map f).sum
theorem sumW_cons (f : BE → Int) (b : BE) (M : List BE) : sumW f (b :: M) = f b + sumW f M := by simp [sumW]
theorem sumW_app (f : BE → Int) (A B : List BE) : sumW f (A ++ B) = sumW f A + sumW f B := by simp [sumW]
theorem sum_permZ {A B : List Int} (h : A.Perm B) : A.sum = B.sum := by
  induction h with
  | nil => rfl
  | cons x _ ih => rw [List.sum_cons, List.sum_cons, ih]
  | swap x y l => simp only [List.sum_cons]; omega
  | trans _ _ h1 h2 => exact h1.trans h2
theorem sumW_set (f : BE → Int) : ∀ (M : List BE) (i : Nat) (b x : BE), M[i]? = some b → sumW f (M.set i x) = sumW f M - f b + f x
  | [], i, b, x, h => by simp at h
  | c :: r, 0, b, x, h => by cases h; rw [List.set_cons_zero, sumW_cons, sumW_cons]; omega
  | c :: r, i + 1, b, x, h => by rw [List.set_cons_succ, sumW_cons, sumW_cons, sumW_set f r i b x (by simpa using h)]; omega
theorem sumW_nn {f : BE → Int} {M : List BE} (h : ∀ b ∈ M, 0 ≤ f b) : 0 ≤ sumW f M := by
  induction M with
  | nil => exact Int.le_refl _
  | cons b r ih =>
    rw [sumW_cons]
    have := h b List.mem_cons_self
    have := ih (fun q hq => h q (List.mem_cons_of_mem _ hq))
    omega
theorem sumW_le {f : BE → Int} {X : Int} {M : List BE} (h : ∀ b ∈ M, f b ≤ X) : sumW f M ≤ X * M.length := by
  induction M with
  | nil => simp [sumW]
  | cons b r ih =>
    rw [sumW_cons, List.length_cons]
    have := h b List.mem_cons_self
    have := ih (fun q hq => h q (List.mem_cons_of_mem _ hq))
    rw [Int.natCast_succ, Int.mul_add]
    omega
theorem sumW_filter {f : BE → Int} {M : List BE} (p : BE → Bool) (h : ∀ b ∈ M, 0 ≤ f b) : sumW f (M.filter p) ≤ sumW f M := by
  induction M with
  | nil => exact Int.le_refl _
  | cons b r ih =>
    have h0 := h b List.mem_cons_self
    have := ih (fun q hq => h q (List.mem_cons_of_mem _ hq))
    rw [List.filter_cons]
    split
    · rw [sumW_cons, sumW_cons]; omega
    · rw [sumW_cons]; omega
theorem sumW_filter_eq {f : BE → Int} {M : List BE} (p : BE → Bool) (h : ∀ b ∈ M, p b = false → f b = 0) : sumW f (M.filter p) = sumW f M := by
  induction M with
  | nil => rfl
  | cons b r ih =>
    have h0 := h b List.mem_cons_self
    have := ih (fun q hq => h q (List.mem_cons_of_mem _ hq))
    rw [List.filter_cons]
    split
    · rw [sumW_cons, sumW_cons]; omega
    · rename_i e
      rw [sumW_cons, h0 (by simpa using e)]; omega
theorem sum_zeroL {α : Type} (l : List α) : (l.map (fun _ => (0 : Int))).sum = 0 := by
  induction l with
  | nil => rfl
  | cons a r ih => rw [List.map_cons, List.sum_cons, ih]; rfl
def atE (f : BE → Int) (M : List BE) (i : Int) : Int := match M[i.toNat]? with | some b => f b | none => 0
theorem idx_sum (f : BE → Int) (M : List BE) (isF : BE → Bool) : ∀ k, k ≤ M.length → ((idxK M isF k).map (atE f M)).sum = sumW f ((M.take k).filter isF)
  | 0, _ => by simp [idxK, sumW]
  | k + 1, hk => by
    have ih := idx_sum f M isF k (by omega)
    have hM : M[k]? = some (M[k]'(by omega)) := List.getElem?_eq_getElem _
    rw [List.take_add_one, List.filter_append, sumW_app, ← ih]
    unfold idxK
    rw [List.range_succ, List.filter_append, List.map_append, List.map_append, List.sum_append]
    congr 1
    rw [List.filter_cons]
    cases hf : isF (M[k]'(by omega)) with
    | true =>
      have e1 : (M[k]?).any isF = true := by rw [hM]; simpa using hf
      rw [if_pos e1, hM]
      simp [sumW, hf, atE, hM]
    | false =>
      have e1 : ¬ (M[k]?).any isF = true := by rw [hM]; simpa using hf
      rw [if_neg e1, hM]
      simp [sumW, hf]
theorem ord_sum (f : BE → Int) (M : List BE) (isF : BE → Bool) (cf : BE → BE → Int) : ((ordI M isF cf).map (atE f M)).sum = sumW f (M.filter isF) := by
  unfold ordI
  rw [sum_permZ ((stab_perm _ _).map _), idx_sum f M isF _ (Nat.le_refl _), List.take_length]
structure SpS (can wt : BE → Int) (s : Str) (ord : List Int) (M : List BE) (n : Int) (o : List PV) (F : List BE × Int × List PV) : Prop where
  nn : 0 ≤ F.2.1
  le : F.2.1 ≤ n
  wt : sumW wt F.1 = sumW wt M + (n - F.2.1)
  all : F.2.1 = 0 ∨ n - F.2.1 = (ord.map (atE can M)).sum
  most : n - F.2.1 ≤ (ord.map (atE can M)).sum
  out : ∃ o', F.2.2 = o ++ o' ∧ (∀ p ∈ o', p.g = s ∧ 1 ≤ p.n) ∧ (o'.map PV.n).sum = n - F.2.1
theorem spF_sum (P Q : BE → Prop) (can wt : BE → Int) (nE : BE → Int → Int) (s : Str) (hcan : ∀ b, P b → 0 ≤ can b) (hstep : ∀ b k, Q b → P b → 0 < k → k ≤ can b → P (b.put s (nE b k)) ∧ wt (b.put s (nE b k)) = wt b + k) :
    ∀ (ord : List Int) (M : List BE) (n : Int) (o : List PV), ord.Nodup → (∀ i ∈ ord, 0 ≤ i ∧ ∃ b, M[i.toNat]? = some b ∧ Q b) → (∀ b ∈ M, P b) → 0 ≤ n →
      SpS can wt s ord M n o (ord.foldl (stepS can nE s) (M, n, o))
  | [], M, n, o, _, _, hM, hn => ⟨hn, Int.le_refl _, by dsimp only [List.foldl_nil]; omega, .inr (by simp), by simp, [], by simp, by simp, by simp⟩
  | i :: r, M, n, o, hnd, hi, hM, hn => by
    obtain ⟨h0, b, hb, hq⟩ := hi i List.mem_cons_self
    obtain ⟨hn1, hn2⟩ := List.nodup_cons.1 hnd
    rw [List.foldl_cons]
    have hs : stepS can nE s (M, n, o) i = if min n (can b) ≤ 0 then (M, n, o) else (M.set i.toNat (b.put s (nE b (min n (can b)))), n - min n (can b), o ++ [⟨b.nu, s, min n (can b)⟩]) := by
      unfold stepS; dsimp only; rw [hb]
    rw [hs]
    have hbM := List.mem_of_getElem? hb
    have hcb := hcan b (hM b hbM)
    have hat : atE can M i = can b := by unfold atE; rw [hb]
    by_cases hk : min n (can b) ≤ 0
    · rw [if_pos hk]
      have h := spF_sum P Q can wt nE s hcan hstep r M n o hn2 (fun j hj => hi j (List.mem_cons_of_mem _ hj)) hM hn
      have hnn := h.nn; have hle := h.le; have hal := h.all; have hmo := h.most
      refine ⟨h.nn, h.le, h.wt, ?_, ?_, h.out⟩
      · rw [List.map_cons, List.sum_cons, hat]
        omega
      · rw [List.map_cons, List.sum_cons, hat]
        omega
    · rw [if_neg hk]
      obtain ⟨hst1, hst2⟩ := hstep b (min n (can b)) hq (hM b hbM) (by omega) (by omega)
      have hne : ∀ j ∈ r, i.toNat ≠ j.toNat := fun j hj e => by
        obtain ⟨k0, -⟩ := hi j (List.mem_cons_of_mem _ hj)
        have e2 : i = j := by omega
        exact hn1 (e2 ▸ hj)
      have h := spF_sum P Q can wt nE s hcan hstep r (M.set i.toNat (b.put s (nE b (min n (can b))))) (n - min n (can b)) (o ++ [⟨b.nu, s, min n (can b)⟩]) hn2 (fun j hj => by
        obtain ⟨k0, c, hc, hq'⟩ := hi j (List.mem_cons_of_mem _ hj)
        refine ⟨k0, c, ?_, hq'⟩
        rw [List.getElem?_set_ne (hne j hj)]
        exact hc) (fun c hc => by
        obtain ⟨q, hq'⟩ := List.getElem?_of_mem hc
        rcases set_get hq' with ⟨-, rfl⟩ | ⟨-, e2⟩
        · exact hst1
        · exact hM c (List.mem_of_getElem? e2)) (by omega)
      have e : (r.map (atE can (M.set i.toNat (b.put s (nE b (min n (can b))))))) = r.map (atE can M) := List.map_congr_left (fun j hj => by
        unfold atE
        rw [List.getElem?_set_ne (hne j hj)])
      have hnn := h.nn; have hle := h.le; have hal := h.all; have hmo := h.most; have hwt := h.wt
      rw [e] at hal hmo
      rw [sumW_set wt M i.toNat b _ hb, hst2] at hwt
      generalize hF : (List.foldl (stepS can nE s) (M.set i.toNat (b.put s (nE b (min n (can b)))), n - min n (can b), o ++ [⟨b.nu, s, min n (can b)⟩]) r) = F at *
      refine ⟨h.nn, by omega, by omega, ?_, ?_, ?_⟩
      · rw [List.map_cons, List.sum_cons, hat]
        omega
      · rw [List.map_cons, List.sum_cons, hat]
        omega
      · obtain ⟨o', h1, h2, h3⟩ := h.out
        refine ⟨⟨b.nu, s, min n (can b)⟩ :: o', by rw [h1, List.append_assoc]; rfl, fun p hp => ?_, ?_⟩
        · rcases List.mem_cons.1 hp with rfl | hp
          · exact ⟨rfl, by dsimp only; omega⟩
          · exact h2 p hp
        · rw [List.map_cons, List.sum_cons, h3]; dsimp only; omega
theorem BEok.left {b : BE} (h : BEok b) : leftE b = b.ro - sumI b.its ∧ 0 ≤ leftE b ∧ leftE b ≤ 1099511627776 := by
  have h1 := (h.bw []).left; have h2 := h.tot; have h3 := h.ro; have h4 := sumI_nn (h.bw []).pos
  omega
theorem BEok.ofs {b : BE} (h : BEok b) (s : Str) : ofF b.its s = getI b.its s ∧ 0 ≤ ofF b.its s ∧ ofF b.its s ≤ 1099511627776 := by
  have h1 := (h.bw s).of s; have h2 := getI_nn s (h.bw s).pos; have h3 := getI_le s (h.bw s).pos; have h4 := h.tot; have h5 := h.ro
  omega
theorem of_put {b : BE} {s : Str} {m : Int} (hp : BEok (b.put s m)) (h0 : 0 ≤ m) : ofF (b.put s m).its s = m := by
  rw [(hp.ofs s).1]
  show getI (setF b.its s m) s = m
  rw [getI_set, if_pos rfl]
  split <;> omega
theorem left_put {b : BE} {s : Str} {m : Int} (h : BEok b) (hp : BEok (b.put s m)) (h0 : 0 ≤ m) : leftE (b.put s m) = leftE b + ofF b.its s - m := by
  rw [hp.left.1, h.left.1, (h.ofs s).1]
  show b.ro - sumI (setF b.its s m) = _
  rw [sumI_set]
  split <;> omega
section
variable {M : List BE} {s : Str} {n : Int}
theorem put_sum (h : ∀ b ∈ M, BEok b) (hg : goodB s = true) (hn : 0 ≤ n) : SpS leftE (fun b => ofF b.its s) s (ordI M (fun b => kindE b s != 3) (cfPut s)) M n [] (putF M s n) := by
  unfold putF spF
  refine spF_sum BEok (fun b => kindE b s ≠ 3) _ _ _ s (fun b hb => hb.left.2.1) (fun b k hq hp h0 h1 => ?_) _ M n [] (ordI_nodup _ _ _) (fun i hi => ?_) h hn
  · have := beok_put hp hg hq h0 h1
    have h2 := (hp.ofs s).2.1
    refine ⟨this, ?_⟩
    rw [of_put this (by omega)]
  · obtain ⟨h0, b, hb, hf⟩ := ordI_is hi
    exact ⟨h0, b, hb, by simpa using hf⟩
theorem put_left (h : ∀ b ∈ M, BEok b) (hg : goodB s = true) (hn : 0 ≤ n) : SpS leftE (fun b => - leftE b) s (ordI M (fun b => kindE b s != 3) (cfPut s)) M n [] (putF M s n) := by
  unfold putF spF
  refine spF_sum BEok (fun b => kindE b s ≠ 3) _ _ _ s (fun b hb => hb.left.2.1) (fun b k hq hp h0 h1 => ?_) _ M n [] (ordI_nodup _ _ _) (fun i hi => ?_) h hn
  · have := beok_put hp hg hq h0 h1
    have h2 := (hp.ofs s).2.1
    refine ⟨this, ?_⟩
    rw [left_put hp this (by omega)]
    omega
  · obtain ⟨h0, b, hb, hf⟩ := ordI_is hi
    exact ⟨h0, b, hb, by simpa using hf⟩
theorem take_sum (h : ∀ b ∈ M, BEok b) (hg : goodB s = true) (hn : 0 ≤ n) : SpS (fun b => ofF b.its s) (fun b => - ofF b.its s) s (ordI M (fun b => decide (0 < ofF b.its s)) (cfTake s)) M n [] (takeF M s n) := by
  unfold takeF spF
  refine spF_sum BEok (fun _ => True) _ _ _ s (fun b hb => (hb.ofs s).2.1) (fun b k hq hp h0 h1 => ?_) _ M n [] (ordI_nodup _ _ _) (fun i hi => ?_) h hn
  · have := beok_take hp hg h0 h1
    have h2 := (hp.ofs s).2.1
    refine ⟨this, ?_⟩
    rw [of_put this (by omega)]
    omega
  · obtain ⟨h0, b, hb, hf⟩ := ordI_is hi
    exact ⟨h0, b, hb, trivial⟩
theorem sumE_aux (s : Str) : ∀ (M : List BE) (a : Int), (∀ b ∈ M, BEok b) → 0 ≤ a → a + 1099511627776 * (M.length : Int) ≤ 9223372036854775807 → M.foldl (fun a b => wrap64 (a + ofF b.its s)) a = a + sumW (fun b => ofF b.its s) M
  | [], a, _, _, _ => by simp [sumW]
  | b :: r, a, h, h0, h1 => by
    have hb := ((h b List.mem_cons_self).ofs s).2
    rw [List.length_cons, Int.natCast_succ, Int.mul_add] at h1
    rw [List.foldl_cons, wrap64_in ⟨by omega, by omega⟩, sumE_aux s r _ (fun c hc => h c (List.mem_cons_of_mem _ hc)) (by omega) (by omega), sumW_cons]
    omega
theorem sumE_sum (h : ∀ b ∈ M, BEok b) (hl : M.length ≤ 64) : sumE M s = sumW (fun b => ofF b.its s) M := by
  have := sumE_aux s M 0 h (Int.le_refl _) (by omega)
  unfold sumE
  omega
theorem take_all (h : ∀ b ∈ M, BEok b) : sumW (fun b => ofF b.its s) (M.filter fun b => decide (0 < ofF b.its s)) = sumW (fun b => ofF b.its s) M :=
  sumW_filter_eq _ (fun b hb hp => by
    have := ((h b hb).ofs s).2.1
    have := of_decide_eq_false hp
    omega)
end
/-- A floor with nothing in it takes just its room. -/
theorem full_put {B : List BI} (h : ∀ b ∈ B.map BI.e, BEok b) {s : Str} (hg : goodB s = true) {R : Int} (hR : R = (B.map BI.ro).sum) (h0 : 0 ≤ R) :
    (putF (B.map BI.e) s R).2.1 = 0 ∧ sumW (fun b => ofF b.its s) (putF (B.map BI.e) s R).1 = R ∧ sumW leftE (putF (B.map BI.e) s R).1 = 0 := by
  have p1 := put_sum h hg h0
  have p2 := put_left h hg h0
  have e1 : sumW leftE (B.map BI.e) = R := by
    rw [hR]
    unfold sumW
    rw [List.map_map]
    congr 1
    refine List.map_congr_left (fun b hb => ?_)
    have := (h b.e (List.mem_map_of_mem hb)).left.1
    have h9 : sumI b.e.its = 0 := rfl
    show leftE b.e = b.ro
    rw [this, h9]
    show b.ro - 0 = b.ro
    omega
  have e2 : (B.map BI.e).filter (fun b => kindE b s != 3) = B.map BI.e := by
    refine List.filter_eq_self.2 (fun b hb => ?_)
    obtain ⟨x, hx, rfl⟩ := List.mem_map.1 hb
    rfl
  have e3 : sumW (fun b => ofF b.its s) (B.map BI.e) = 0 := by
    unfold sumW
    rw [List.map_map]
    have : B.map ((fun b => ofF b.its s) ∘ BI.e) = B.map (fun _ => (0 : Int)) := List.map_congr_left (fun b hb => rfl)
    rw [this, sum_zeroL]
  have hal := p1.all; have hwt := p1.wt; have hwl := p2.wt; have hnn := p1.nn
  rw [ord_sum, e2, e1] at hal
  rw [e3] at hwt
  have e4 : ∀ L, sumW (fun b => - leftE b) L = - sumW leftE L := fun L => by
    induction L with
    | nil => rfl
    | cons b r ih => rw [sumW_cons, sumW_cons, ih]; omega
  rw [e4, e4, e1] at hwl
  omega
theorem full_more {M : List BE} (h : ∀ b ∈ M, BEok b) {s : Str} (hg : goodB s = true) {m : Int} (h0 : 0 < m) (hl : sumW leftE M = 0) : 0 < (putF M s m).2.1 := by
  have p1 := (put_sum h hg (n := m) (by omega)).most
  rw [ord_sum] at p1
  have := sumW_filter (fun b => kindE b s != 3) (f := leftE) (fun b hb => (h b hb).left.2.1)
  omega
theorem full_take {M : List BE} (h : ∀ b ∈ M, BEok b) {s : Str} (hg : goodB s = true) {R : Int} (h0 : 0 ≤ R) (hl : R ≤ sumW (fun b => ofF b.its s) M) : (takeF M s R).2.1 = 0 ∧ sumW (fun b => ofF b.its s) (takeF M s R).1 = sumW (fun b => ofF b.its s) M - R := by
  have p1 := take_sum h hg h0
  have hal := p1.all; have hwt := p1.wt; have hnn := p1.nn
  rw [ord_sum, take_all h] at hal
  have e4 : ∀ L, sumW (fun b => - ofF b.its s) L = - sumW (fun b => ofF b.its s) L := fun L => by
    induction L with
    | nil => rfl
    | cons b r ih => rw [sumW_cons, sumW_cons, ih]; omega
  rw [e4, e4] at hwt
  omega
theorem take_less {M : List BE} (h : ∀ b ∈ M, BEok b) {s : Str} (hg : goodB s = true) {n : Int} (h0 : 0 ≤ n) (hl : sumW (fun b => ofF b.its s) M < n) : 0 < (takeF M s n).2.1 := by
  have p1 := (take_sum h hg (n := n) (by omega)).most
  rw [ord_sum, take_all h] at p1
  omega
end Go.Proofs.YtlniekobijcanaaGreat
