/- Texts of this claim, joined: entrepotref27: Unpack; entrepotref27: Put; A floor of the program's and one of the reference's, side by side; Steps of a floor of the program's and one of the reference's, side by side; Arguments: strings, slices of items, opened; bins' laws: their arguments opened; bins' laws: samePlaces; As XEff, where the calls of the chain may turn what the other operations do not read; entrepotlaw27: do; A region that draws its order, whose operations only read and whose calls may lay blocks, within a round of a range over a function: one walk in the text's order serves (the library's theorem on quiet regions asks for no round); bins: Bins, as an iterator over a floor that owns its blocks; bins' laws: looks; Plain: what bins unpacks was packed so, and the other way round; The pair of floors: the start, another floor of the same bins, looks; What was put and taken again; An argument that is a string, opened. -/
import Derived.Test.YtefjdcghdcbojaaGreatBinsBackM12
import Derived.Test.YtefjdcghdcbojaaGreatBinsBackM7
import Derived.Test.YtefjdcghdcbojaaGreatBinsBackM10
import Derived.Laws.OwnMore
import Derived.Test.YtefjdcghdcbojaaGreatBinsBackM4
import Derived.Deep.QuietTactic
import Derived.Test.YtefjdcghdcbojaaGreatBinsBackM1
import Derived.BigQuiet
import Derived.Sort.QuietIn
import Derived.Test.YtefjdcghdcbojaaGreatBinsBackM3
import Derived.Test.YtefjdcghdcbojaaGreatBinsBackM9
import Derived.Test.YtefjdcghdcbojaaGreatBinsBackM8
import Derived.ChangeMaps5
namespace Go.Proofs.YtefjdcghdcbojaaGreat
open Go.RowKit Go.Maps
def bvI (b : BV) : BI := ⟨b.nu, b.zo, b.ro⟩
theorem own_ty {w : World} {base : Nat} {e : TypeId} {size n c : Nat} {v : Value} {xs : List Value} (h : w.ownsRow base e size v n xs) (hc : v.ownBlock = some c) : ∃ cur, w.heap[c]? = some (.cells cur e) := by
  rcases h.2 with ⟨rfl, _⟩ | ⟨g, cap, cur, rfl, _, hb, _⟩
  · cases hc
  · cases hc; exact ⟨cur, hb⟩
theorem ty_ne {w : World} {b c : Nat} {x y : Array Value} {s t : TypeId} (h1 : w.heap[b]? = some (.cells x s)) (h2 : w.heap[c]? = some (.cells y t)) (h : s ≠ t) : b ≠ c := fun e => by
  subst e
  rw [h1] at h2
  injection h2 with h2
  injection h2 with _ h2
  exact h h2
/-- On the way of the reference's Unpack. -/
structure UxI (w0 W : World) (n0 M0 : Nat) (K : Nat → Prop) (ML : List BV) (t : Tst) (vr vl : Value) : Prop where
  tr : TR W n0 K t.1 t.2
  flo : W.heap[n0 + 1]? = some (.cells #[vr] 71)
  rows : W.ownsRow (n0 + 2) 75 4 vr ML.length (flat BV.cs ML)
  bins : W.ownsRow (n0 + 2) 56 3 vl ML.length (flat biC (ML.map bvI))
  its : ∀ b ∈ ML, BOk W b ∧ (b.its ≠ [] → ∀ c, b.l.ownBlock = some c → n0 + 2 ≤ c ∧ c < M0 ∧ ∃ cur, W.heap[c]? = some (.cells cur 118))
  lt : (∀ c, vr.ownBlock = some c → c < M0) ∧ (∀ c, vl.ownBlock = some c → c < M0) ∧ n0 + 2 ≤ M0
  fr : Fr (fun b => n0 ≤ b) w0 W
section
variable {w0 W W' : World} {n0 M0 : Nat} {K : Nat → Prop} {ML : List BV} {t t' : Tst} {vr vl : Value}
theorem UxI.take (h : UxI w0 W n0 M0 K ML t vr vl) (ht : TR W' n0 K t'.1 t'.2) (hf : Fr (fun b => b = n0) W W') : UxI w0 W' n0 M0 K ML t' vr vl := by
  obtain ⟨-, h2, h3, h4, h5, h6, h7⟩ := h
  refine ⟨ht, hf.at_ h2 (by omega), hf.row h3 (fun b hb e => by have := (h3.lt b hb).1; have e : b = n0 := e; omega), hf.row h4 (fun b hb e => by have := (h4.lt b hb).1; have e : b = n0 := e; omega), fun b hb => ?_, h6, h7.trans' hf (fun b _ e => by have e : b = n0 := e; omega)⟩
  obtain ⟨k1, k2⟩ := h5 b hb
  refine ⟨k1.keep hf (fun hne c hc e => by have := (k2 hne c hc).1; have e : c = n0 := e; omega), fun hne c hc => ?_⟩
  obtain ⟨j1, j2, cur, j3⟩ := k2 hne c hc
  exact ⟨j1, j2, cur, hf.at_ j3 (by omega)⟩
theorem UxI.keep (h : UxI w0 W n0 M0 K ML t vr vl) (hK : ∀ b, K b → b < n0) (hf : Fr (fun b => M0 ≤ b) W W') : UxI w0 W' n0 M0 K ML t vr vl := by
  obtain ⟨h1, h2, h3, h4, h5, h6, h7⟩ := h
  have hm := h6.2.2
  refine ⟨h1.fr hf (fun e => by have e : M0 ≤ n0 := e; omega) (fun b hb e => by have := hK b hb; have e : M0 ≤ b := e; omega), hf.at_ h2 (by omega), hf.row h3 (fun b hb e => by have := h6.1 b hb; have e : M0 ≤ b := e; omega), hf.row h4 (fun b hb e => by have := h6.2.1 b hb; have e : M0 ≤ b := e; omega), fun b hb => ?_, h6, h7.trans' hf (fun b _ e => by have e : M0 ≤ b := e; omega)⟩
  obtain ⟨k1, k2⟩ := h5 b hb
  refine ⟨k1.keep hf (fun hne c hc e => by have := (k2 hne c hc).2.1; have e : M0 ≤ c := e; omega), fun hne c hc => ?_⟩
  obtain ⟨j1, j2, cur, j3⟩ := k2 hne c hc
  exact ⟨j1, j2, cur, hf.at_ j3 (by omega)⟩
/-- One more row: the bins' row grows, then the rows, then the floor is set. -/
theorem UxI.push {W1 W2 W3 : World} {vl' vr' : Value} {b : BV} (h : UxI w0 W n0 M0 K ML t vr vl) (hK : ∀ b, K b → b < n0)
    (hb : BOk W b) (hbi : b.its ≠ [] → ∀ c, b.l.ownBlock = some c → n0 + 2 ≤ c ∧ ∃ cur, W.heap[c]? = some (.cells cur 118))
    (hf1 : Fr (fun c => vl.ownBlock = some c) W W1) (ho1 : W1.ownsRow (n0 + 2) 56 3 vl' (ML.length + 1) (flat biC (ML.map bvI) ++ [.int .i64 b.nu, .int .i64 b.zo, .int .i64 b.ro]))
    (hf2 : Fr (fun c => vr.ownBlock = some c) W1 W2) (ho2 : W2.ownsRow (n0 + 2) 75 4 vr' (ML.length + 1) (flat BV.cs ML ++ [.int .i64 b.nu, .int .i64 b.zo, .int .i64 b.ro, b.l]))
    (hf3 : Fr (fun c => c = n0 + 1) W2 W3) (ho3 : W3.heap[n0 + 1]? = some (.cells #[vr'] 71)) : UxI w0 W3 n0 W3.heap.size K (ML ++ [b]) t vr' vl' := by
  have hmax := h.lt.2.2
  obtain ⟨h1, h2, h3, h4, h5, h6, h7⟩ := h
  have nvl : ∀ c, vl.ownBlock = some c → n0 + 2 ≤ c := fun c hc => (h4.lt c hc).1
  have nvr : ∀ c, vr.ownBlock = some c → n0 + 2 ≤ c := fun c hc => (h3.lt c hc).1
  have h31 : W1.ownsRow (n0 + 2) 75 4 vr ML.length (flat BV.cs ML) := hf1.row h3 (fun c hc e => by
    obtain ⟨x, hx⟩ := own_ty h3 hc
    obtain ⟨y, hy⟩ := own_ty h4 e
    exact ty_ne hx hy (by decide) rfl)
  have hall : ∀ x : BV, BOk W x → (x.its ≠ [] → ∀ c, x.l.ownBlock = some c → n0 + 2 ≤ c ∧ ∃ cur, W.heap[c]? = some (.cells cur 118)) → BOk W3 x ∧ (x.its ≠ [] → ∀ c, x.l.ownBlock = some c → n0 + 2 ≤ c ∧ c < W3.heap.size ∧ ∃ cur, W3.heap[c]? = some (.cells cur 118)) := fun x k1 k2 => by
    have n1 : x.its ≠ [] → ∀ c, x.l.ownBlock = some c → ¬ vl.ownBlock = some c := fun hne c hc e => by
      obtain ⟨-, cur, j3⟩ := k2 hne c hc
      obtain ⟨y, hy⟩ := own_ty h4 e
      exact ty_ne j3 hy (by decide) rfl
    have n2 : x.its ≠ [] → ∀ c, x.l.ownBlock = some c → ¬ vr.ownBlock = some c := fun hne c hc e => by
      obtain ⟨-, cur, j3⟩ := k2 hne c hc
      obtain ⟨y, hy⟩ := own_ty h3 e
      exact ty_ne j3 hy (by decide) rfl
    refine ⟨((k1.keep hf1 n1).keep hf2 n2).keep hf3 (fun hne c hc e => by have := (k2 hne c hc).1; have e : c = n0 + 1 := e; omega), fun hne c hc => ?_⟩
    obtain ⟨j1, cur, j3⟩ := k2 hne c hc
    have j4 := hf3.at_ (hf2.at_ (hf1.at_ j3 (n1 hne c hc)) (n2 hne c hc)) (by omega)
    exact ⟨j1, (Array.getElem?_eq_some_iff.1 j4).1, cur, j4⟩
  have e1 : (ML ++ [b]).length = ML.length + 1 := by simp
  have hsz := (Array.getElem?_eq_some_iff.1 ho3).1
  have r3 : W3.ownsRow (n0 + 2) 75 4 vr' (ML ++ [b]).length (flat BV.cs (ML ++ [b])) := by
    rw [e1, flat_app]
    exact hf3.row ho2 (fun c hc e => by have := (ho2.lt c hc).1; have e : c = n0 + 1 := e; omega)
  have r4 : W3.ownsRow (n0 + 2) 56 3 vl' (ML ++ [b]).length (flat biC ((ML ++ [b]).map bvI)) := by
    rw [e1, List.map_append, flat_app]
    refine hf3.row (hf2.row ho1 (fun c hc e => ?_)) (fun c hc e => by have := (ho1.lt c hc).1; have e : c = n0 + 1 := e; omega)
    obtain ⟨x, hx⟩ := own_ty ho1 hc
    obtain ⟨y, hy⟩ := own_ty h31 e
    exact ty_ne hx hy (by decide) rfl
  refine ⟨((h1.fr hf1 (fun e => by have := nvl _ e; omega) (fun c hc e => by have := nvl _ e; have := hK c hc; omega)).fr hf2 (fun e => by have := nvr _ e; omega) (fun c hc e => by have := nvr _ e; have := hK c hc; omega)).fr hf3 (fun e => by have e : n0 = n0 + 1 := e; omega) (fun c hc e => by have := hK c hc; have e : c = n0 + 1 := e; omega), ho3, r3, r4, fun x hx => ?_, ⟨fun c hc => (r3.lt c hc).2, fun c hc => (r4.lt c hc).2, by
    have := hf1.size; have := hf2.size; have := hf3.size
    rcases r3.2 with ⟨_, e⟩ | ⟨g, _, _, rfl, hg, hx, _⟩
    · rw [e1] at e; omega
    · have := (Array.getElem?_eq_some_iff.1 hx).1; omega⟩, ((h7.trans' hf1 (fun c _ e => by have := nvl _ e; omega)).trans' hf2 (fun c _ e => by have := nvr _ e; omega)).trans' hf3 (fun c _ e => by have e : c = n0 + 1 := e; omega)⟩
  rcases List.mem_append.1 hx with hx | hx
  · exact hall x (h5 x hx).1 (fun hne c hc => by obtain ⟨j1, -, j3⟩ := (h5 x hx).2 hne c hc; exact ⟨j1, j3⟩)
  · rw [List.mem_singleton.1 hx]; exact hall b hb hbi
theorem UxI.ra (h : UxI w0 W n0 M0 K ML t vr vl) (hl : 0 < ML.length) : RA W (n0 + 1) (fun c => n0 + 1 ≤ c ∧ c < W.heap.size) ML := by
  obtain ⟨h1, h2, h3, h4, h5, h6, h7⟩ := h
  have h3' := h3
  rcases h3.2 with ⟨_, e⟩ | ⟨r, cap, cur, rfl, hg, hx, hn, hm, hs, ht⟩
  · omega
  · have hrl := (Array.getElem?_eq_some_iff.1 hx).1
    refine ⟨⟨r, cap, cur, h2, hx, hn, hm, hs, ht, ⟨by omega, hrl⟩, by omega, fun b hb => ⟨(h5 b hb).1, fun hne c hc => ?_⟩⟩, ⟨Nat.le_refl _, (Array.getElem?_eq_some_iff.1 h2).1⟩, fun b hb => hb.2⟩
    obtain ⟨j1, j2, cur', j3⟩ := (h5 b hb).2 hne c hc
    exact ⟨⟨by omega, (Array.getElem?_eq_some_iff.1 j3).1⟩, by omega, ty_ne j3 hx (by decide)⟩
end
end Go.Proofs.YtefjdcghdcbojaaGreat

namespace Go.Proofs.YtefjdcghdcbojaaGreat
open Go.RowKit Go.Maps
theorem infoBoolU : (Tryz.prog.info? 4).map (fun i => (i.zero, i.size, i.bytes)) = some (some (.bool false), 1, 1) := by kernel_rfl
/-- Which indices are used. -/
def UsI (W : World) (ru N : Nat) (U : Nat → Bool) : Prop := ∃ cur : Array Value, W.heap[ru]? = some (.cells cur 4) ∧ cur.size = N ∧ ∀ i, i < N → cur[i]? = some (.bool (U i))
theorem UsI.keep {S : Nat → Prop} {W W' : World} {ru N : Nat} {U : Nat → Bool} (h : UsI W ru N U) (hf : Fr S W W') (hS : ¬ S ru) : UsI W' ru N U := by
  obtain ⟨cur, h1, h2⟩ := h
  exact ⟨cur, hf.at_ h1 hS, h2⟩
theorem UsI.cell {W : World} {ru N : Nat} {U : Nat → Bool} (h : UsI W ru N U) {i : Nat} (hi : i < N) : W.cell? ⟨ru, i, none⟩ = some (.bool (U i)) ∧ W.frozen? ⟨ru, i, none⟩ = false := by
  obtain ⟨cur, h1, h2, h3⟩ := h
  exact ⟨cell_obj h1 i _ (h3 i hi), obj_frozen h1 i⟩
theorem UsI.set {W : World} {ru N b : Nat} {U : Nat → Bool} (h : UsI W ru N U) : UsI (W.setCell ⟨ru, b, none⟩ (.bool true)) ru N (fun i => if i = b then true else U i) := by
  obtain ⟨cur, h1, h2, h3⟩ := h
  refine ⟨cur.setIfInBounds b (.bool true), obj_set h1 b _, by rw [Array.size_setIfInBounds]; exact h2, fun i hi => ?_⟩
  rw [Array.getElem?_setIfInBounds]
  by_cases e : b = i
  · subst e
    rw [if_pos rfl, if_pos (by omega)]
    simp
  · rw [if_neg e, h3 i hi]
    have : ¬ i = b := fun e2 => e e2.symm
    simp [this]
theorem UsI.made {W : World} {base N : Nat} {ru : Nat} (h : W.ownsRow base 4 1 (.slice (some ⟨ru, 0, none⟩) N N) N (madeCells (Value.bool false).cells (N * 1)).toList) : UsI W ru N (fun _ => false) := by
  rcases h.2 with ⟨e, -⟩ | ⟨g, cap, cur, e, hbase, hb, hn, hm, hs, ht⟩
  · cases e
  · injection e with e1 _ e3
    injection e1 with e1
    injection e1 with e1 _ _
    subst e1; subst e3
    refine ⟨cur, hb, by omega, fun i hi => ?_⟩
    have e : (madeCells (Value.bool false).cells (N * 1)).toList = List.replicate (N * 1) (.bool false) := toList_madeCells_one _ _
    rw [e] at ht
    have h2 : (cur.toList.take (N * 1))[i]? = some (.bool false) := by rw [ht, List.getElem?_replicate, if_pos (by omega)]
    rw [List.getElem?_take_of_lt (by omega)] at h2
    rw [← Array.getElem?_toList]
    exact h2
theorem count_less {p q : Nat → Bool} : ∀ (l : List Nat), (∀ x ∈ l, q x = true → p x = true) → (∃ x ∈ l, p x = true ∧ q x = false) → (l.filter q).length < (l.filter p).length := fun l h1 h2 => by
  have key : ∀ (l : List Nat), (∀ x ∈ l, q x = true → p x = true) → (l.filter q).length ≤ (l.filter p).length := fun l => by
    induction l with
    | nil => intro _; exact Nat.le_refl _
    | cons a r ih =>
      intro h
      have := ih (fun x hx => h x (List.mem_cons_of_mem _ hx))
      rw [List.filter_cons, List.filter_cons]
      by_cases e : q a = true
      · rw [if_pos e, if_pos (h a List.mem_cons_self e), List.length_cons, List.length_cons]; omega
      · rw [if_neg e]
        split
        · rw [List.length_cons]; omega
        · exact this
  induction l with
  | nil => obtain ⟨x, hx, -⟩ := h2; cases hx
  | cons a r ih =>
    have hk := key r (fun x hx => h1 x (List.mem_cons_of_mem _ hx))
    rw [List.filter_cons, List.filter_cons]
    obtain ⟨x, hx, hp, hq⟩ := h2
    rcases List.mem_cons.1 hx with e | hx
    · subst e
      rw [if_neg (by rw [hq]; simp), if_pos hp, List.length_cons]; omega
    · have := ih (fun x hx => h1 x (List.mem_cons_of_mem _ hx)) ⟨x, hx, hp, hq⟩
      by_cases e : q a = true
      · rw [if_pos e, if_pos (h1 a List.mem_cons_self e), List.length_cons, List.length_cons]; omega
      · rw [if_neg e]
        split
        · rw [List.length_cons]; omega
        · exact this
/-- How many are unused. -/
def muU (W : World) (ru N : Nat) : Nat := ((List.range N).filter fun i => match W.cell? ⟨ru, i, none⟩ with | some (.bool b) => !b | _ => false).length
theorem muU_eq {W : World} {ru N : Nat} {U : Nat → Bool} (h : UsI W ru N U) : muU W ru N = ((List.range N).filter fun i => !U i).length := by
  unfold muU
  congr 1
  refine List.filter_congr (fun i hi => ?_)
  rw [(h.cell (List.mem_range.1 hi)).1]
theorem SrI.keepU {w0 W W' : World} {O : Nat → Prop} {r cap N ru : Nat} {PE : BE → Prop} {Lj : List BV} {vo : Value} {out : List PV} (h : SrI w0 O r cap N PE W Lj vo out) (hf : Fr (fun c => c = ru) W W') (hr : ru ≠ r) (hvo : vo.ownBlock ≠ some ru) (hits : ∀ b ∈ Lj, b.its ≠ [] → ∀ c, b.l.ownBlock = some c → c ≠ ru) (hw : w0.heap.size ≤ ru) : SrI w0 O r cap N PE W' Lj vo out := by
  obtain ⟨⟨cur, h1, h2⟩, h3, hle, h4, h5, h6, h7, h8⟩ := h
  exact ⟨⟨cur, hf.at_ h1 (fun e => hr e.symm), h2⟩, h3, hle, fun b hb => ⟨(h4 b hb).1.keep hf (fun hne c hc e => hits b hb hne c hc e), (h4 b hb).2⟩, hf.row h5 (fun b hb e => hvo (by rw [hb, show b = ru from e])), h6, h7.trans' hf (fun c hc e => by have e : c = ru := e; omega), h8⟩
set_option maxRecDepth 100000 in
set_option maxHeartbeats 4000000 in
theorem rPutM_no (w : World) (g : Nat) (s : Str) (n : Int) (hs : okS s) (hm : mayF s n ≠ 0) : Calls Tryz.prog 40 #[.pointer (some ⟨g, 0, none⟩), vS s, .int .i64 n] w fun e w' => e = .returned (.tuple #[.slice none 0 0, .int .i64 60]) ∧ Fr (fun _ => False) w w' := by
  have hmy := fun W => rMayN W s n hs
  have hd : decide (mayF s n = 0) = false := decide_eq_false hm
  simp only [hd] at hmy
  have HMY := Lib.hid hmy
  clear hmy hd hm hs
  go_enter Tryz.func40, Tryz.ntmps40
  go_wp2_with (go_at_call 86; refine (HMY.out _).mono ?_; rintro e w3 ⟨rfl, rfl⟩)
  go_ret2
  exact ⟨rfl, Fr.refl _ _⟩
set_option maxRecDepth 100000 in
set_option maxHeartbeats 64000000 in
theorem rPutM (w : World) (g : Nat) (TS : Nat → Prop) (L : List BV) (s : Str) (n : Int) (h : RA w g TS L) (hok : ∀ x ∈ L.map BV.e, BEok x) (hL0 : 0 < L.length) (hL : L.length ≤ 64) (hm : mayF s n = 0) :
    Calls Tryz.prog 40 #[.pointer (some ⟨g, 0, none⟩), vS s, .int .i64 n] w fun e w' => PrP w g TS 2 (putF (L.map BV.e) s n) e w' := by
  obtain ⟨j0, hj', hy0, hy1, hy2⟩ := info_parts infoRowS
  obtain ⟨i0, hi', hz0, hz1, hz2⟩ := info_parts infoPlace
  obtain ⟨b0, hbi', hb0, hb1, hb2⟩ := info_parts infoBoolU
  obtain ⟨hgs, hm1, hm2⟩ := mayF_zero hm
  have hs := good_okS hgs
  have HA := Lib.hid h
  have hmy := fun W => rMayN W s n hs
  have hd : decide (mayF s n = 0) = true := decide_eq_true hm
  simp only [hd] at hmy
  have HMY := Lib.hid hmy
  obtain ⟨M, hM⟩ : ∃ M, L.map BV.e = M := ⟨_, rfl⟩
  rw [hM] at hok ⊢
  have HM := Lib.hid hM
  obtain ⟨PP, hPP⟩ : ∃ PP, PrP w g TS 2 (putF M s n) = PP := ⟨_, rfl⟩
  have HPP := Lib.hid hPP
  rw [hPP]
  obtain ⟨N, hN⟩ : ∃ N, L.length = N := ⟨_, rfl⟩
  have HN := Lib.hid hN
  rw [hN] at hL hL0
  have hNI : (N : Int) ≤ 64 := by omega
  obtain ⟨ord, hord⟩ : ∃ ord, ordI M (fun b => kindE b s != 3) (cfPut s) = ord := ⟨_, rfl⟩
  obtain ⟨ST, hST⟩ : ∃ ST : (List BE × Int × List PV) → Int → (List BE × Int × List PV), stepS leftE (fun b k => ofF b.its s + k) s = ST := ⟨_, rfl⟩
  have htF : putF M s n = ord.foldl ST (M, n, []) := by unfold putF spF; rw [hord, hST]
  have HTF := Lib.hid htF
  have hordl : ord.length ≤ N := by have := ordI_len M (fun b => kindE b s != 3) (cfPut s); rw [hord, ← hM, List.length_map, hN] at this; exact this
  have hnod : ord.Nodup := by rw [← hord]; exact ordI_nodup _ _ _
  have hmem : ∀ (i : Nat), (i : Int) ∈ ord ↔ ∃ b, M[i]? = some b ∧ kindE b s ≠ 3 := fun i => by rw [← hord, mem_ordI]; simp
  have HORD := Lib.hid hord; have HST := Lib.hid hST; have HORL := Lib.hid hordl; have HNOD := Lib.hid hnod; have HMEM := Lib.hid hmem
  have HSWO := Lib.hid (cfPut_swo s)
  have HMN : Hid (M.length = N) := Lib.hid (by rw [← hM, List.length_map, hN])
  obtain ⟨ad, c, hfx⟩ := ra_facts h hN hL0
  have HFX := Lib.hid hfx
  have HSLX : Hid (∀ x ∈ L, ∃ la lc, x.l = .slice la x.its.length lc) := Lib.hid (fun x hx => by
    obtain ⟨_, _, q1, q2⟩ := h.rl
    exact (q2.okm hx).l.sl)
  have HONE : Hid (∀ u ∈ flat BV.cs L, u.oneCell' = true) := Lib.hid (by obtain ⟨_, _, _, q2⟩ := h.rl; exact bv_slices q2)
  have HOK := Lib.hid hok; have HGS := Lib.hid hgs; have HSS := Lib.hid hs
  have hnI : n ≤ 1099511627776 := hm2
  have HPE : Hid (∀ b ∈ L, BEok b.e) := Lib.hid (fun b hb => hok b.e (by rw [← hM]; exact List.mem_map_of_mem hb))
  have z0 := (HFX.out w (Fr.refl _ _)).1
  have za := ((Fr.refl (fun _ => False) w).alloc (.cells #[] 75)).cell z0 (fun e => e)
  clear h hok hmy hd hm hgs hs hM hPP hN hord hST htF hordl hnod hmem hfx
  go_enter Tryz.func40, Tryz.ntmps40
  go_wp2_with (first
    | (go_at_call 86; refine (HMY.out _).mono ?_; rintro e w3 ⟨rfl, rfl⟩)
    | (at_builtin; refine wpList_append_src rfl _ _ 69 rfl w.heap.size 75 j0 (.agg #[.int .i64 0, .int .i64 0, .int .i64 0, .slice none 0 0]) 48 Tryz.underlying69 hj' hy0 hy1 hy2 rfl (by decide) (.slice (some ⟨w.heap.size, 0, none⟩) 0 0) 0 [] rfl (World.ownsRow_made w #[] 0 (Nat.le_refl _) (Nat.zero_le _) rfl) _ rfl (HFX.out _ ((Fr.refl _ w).alloc _)).2.1 HONE.out (by unfold maxLen; omega) (by omega) (by simp) ?_; intro v9 w9 hown9 hgrow9 hloc9; have hf9 : Fr (fun _ => False) w w9 := ((Fr.refl _ w).alloc _).trans' (Fr.grown (S := fun b => w.heap.size ≤ b) hgrow9 (fun r hr _ => by cases hr; exact Nat.le_refl _)) (fun b hb e => by omega); rw [Nat.zero_add, List.nil_append] at hown9; obtain ⟨r, cap, hve, hcm, hsr⟩ := SrI.start BEok HA.out hf9 (by rw [HN.out]; exact hown9) (by rw [HN.out]; omega) HPE.out; rw [HN.out] at hve hsr; subst hve; have HCM := Lib.hid hcm; have HI9 := Lib.hid hsr; clear hown9 hgrow9 hloc9 hf9 hcm hsr z0 za)
    | (at_make; refine wpList_make_full w9 rfl _ _ 134 rfl w9.heap.size 4 b0 (.bool false) 1 Tryz.underlying134 hbi' hb0 hb1 .i64 .i64 _ _ N rfl rfl rfl rfl (by rw [hb2]; omega) (by unfold maxLen; omega) (Nat.le_refl _) ?_; intro w10 hown10 hgrow10; have hus0 := UsI.made hown10; have HUS0 := Lib.hid hus0; have hf10 : Fr (fun _ => False) w9 w10 := Fr.grown hgrow10 (fun r hr _ => by cases hr); have HI0 := Lib.hid (HI9.out.keep0 hf10); clear hown10 hgrow10 hus0 hf10))
  obtain ⟨ru, hru⟩ : ∃ ru, w9.heap.size = ru := ⟨_, rfl⟩
  rw [hru] at HUS0 ⊢
  have HRU : Hid (w.heap.size ≤ ru ∧ r < ru) := Lib.hid (by
    have h1 := HI9.out.fr.size
    obtain ⟨⟨cur, h2, -⟩, -⟩ := HI9.out
    have h3 := (Array.getElem?_eq_some_iff.1 h2).1
    omega)
  have HRL : Hid (∀ b ∈ L, b.its ≠ [] → ∀ c, b.l.ownBlock = some c → c ≠ ru) := Lib.hid (fun b hb hne c hc => by
    have := (HI9.out.bins b hb).1.l.lt hne c hc
    omega)
  clear hru
  go_wp2_with fail
  go_loopw [2, 10] (fun vn vo wr => ∃ (j : Nat) (nj : Int) (Lj : List BV) (out : List PV), j ≤ ord.length ∧ vn = .int .i64 nj ∧ 0 ≤ nj ∧ nj ≤ n ∧ out.length ≤ j ∧ (ord.take j).foldl ST (M, n, []) = (Lj.map BV.e, nj, out) ∧ SrI w (fun c => TS c ∧ c ≠ g) r cap N BEok wr Lj vo out ∧ (∀ p ∈ out, okPv wr p) ∧ UsI wr ru N (fun i => decide ((i : Int) ∈ ord.take j)) ∧ (∀ b ∈ Lj, b.its ≠ [] → ∀ c, b.l.ownBlock = some c → c ≠ ru)) (fun _ _ wr => muU wr ru N)
  case atStart => exact ⟨0, n, L, [], Nat.zero_le _, rfl, by omega, Int.le_refl _, Nat.le_refl _, by rw [HM.out]; rfl, HI0.out, fun p hp => (by cases hp), by simpa using HUS0.out, HRL.out⟩
  case round =>
    obtain ⟨j, nj, Lj, out, hj, rfl, hnn, hnle, hol, hF, hI, hop, hus, hits⟩ := hrel
    have HI := Lib.hid hI; have HF2 := Lib.hid hF; have HOP := Lib.hid hop; have HUS := Lib.hid hus; have HMUE := Lib.hid (muU_eq hus); have HITS := Lib.hid hits
    obtain ⟨ao, ac, rfl⟩ := row_sl hI.out
    have HJ := Lib.hid hj; have HOL := Lib.hid hol
    clear hI hF hop hj hol hus hits
    by_cases hpos : 0 < nj
    · have hrow : Hid (∀ (q : Nat), (q : Int) ∉ ord.take j → ∀ x : BV, Lj[q]? = some x → M[q]? = some x.e) := Lib.hid (fun q hq x hx => by
        have hels := fold_else (q := q) (can := leftE) (nE := fun b k => ofF b.its s + k) (s := s) (ord.take j) (M, n, []) (fun y hy e => by
          obtain ⟨i, rfl, -⟩ := ordI_in (L := M) (isF := fun b => kindE b s != 3) (cf := cfPut s) (x := y) (by rw [HORD.out]; exact List.mem_of_mem_take hy)
          have e : q = i := by omega
          exact hq (e ▸ hy))
        rw [HST.out, HF2.out] at hels
        dsimp only at hels
        rw [List.getElem?_map, hx] at hels
        exact hels.symm)
      have hnd : Hid (∀ q : Nat, (q : Int) ∈ ord.take j → (q : Int) ∈ ord.drop j → False) := Lib.hid (fun q h1 h2 => by
        have := HNOD.out
        rw [← List.take_append_drop j ord, List.nodup_append] at this
        exact this.2.2 _ h1 _ h2 rfl)
      have hel : Hid (∀ (q : Nat) (b : BE), M[q]? = some b → ((q : Int) ∈ ord.drop j ↔ ((q : Int) ∉ ord.take j ∧ kindE b s ≠ 3))) := Lib.hid (fun q b hb => by
        constructor
        · intro h1
          obtain ⟨b', hb', h2⟩ := (HMEM.out q).1 (List.mem_of_mem_drop h1)
          rw [hb] at hb'
          injection hb' with hb'
          exact ⟨fun h3 => hnd.out q h3 h1, hb' ▸ h2⟩
        · rintro ⟨h1, h2⟩
          have : (q : Int) ∈ ord := (HMEM.out q).2 ⟨b, hb, h2⟩
          rw [← List.take_append_drop j ord] at this
          exact (List.mem_append.1 this).resolve_left h1)
      go_wp2_with fail
      go_loopw [11, 12] (fun vb vi wq => ∃ (k : Nat) (bst : Int), k ≤ N ∧ vi = .int .i64 k ∧ vb = .int .i64 bst ∧ Sc M (cfPut s) (fun i => (i : Int) ∈ ord.drop j) k bst ∧ Fr (fun _ => False) wr wq) (fun _ vi _ => N - (intOf vi).toNat)
      case atStart => exact ⟨0, -1, Nat.zero_le _, rfl, rfl, Sc.zero, Fr.refl _ _⟩
      case round =>
        obtain ⟨k, bst, hk, rfl, rfl, hsc, hfq⟩ := hrel
        have HSC := Lib.hid hsc; have HFQ := Lib.hid hfq
        have HIQ := Lib.hid (HI.out.keep0 hfq)
        have HUQ := Lib.hid (HUS.out.keep hfq (fun e => e))
        clear hsc hfq
        by_cases hlt : k < N
        · have hkI : (k : Int) < N := by omega
          obtain ⟨u0, -⟩ := HUQ.out.cell hlt
          obtain ⟨x, hx⟩ : ∃ x, L[k]? = some x := ⟨L[k]'(by rw [HN.out]; exact hlt), List.getElem?_eq_getElem _⟩
          have hMx : M[k]? = some x.e := by rw [← HM.out, List.getElem?_map, hx]; rfl
          have hFRQ : Hid (Fr (fun _ => False) w wr) := Lib.hid HIQ.out.fr
          obtain ⟨z0, -, hzs⟩ := HFX.out wr hFRQ.out
          obtain ⟨y0, y1, y2, y3, hbk⟩ := hzs k x hx
          obtain ⟨la, lc, hl⟩ := HSLX.out x (List.mem_of_getElem? hx)
          rw [hl] at y3
          obtain ⟨m, hmm⟩ : ∃ m, x.its.length = m := ⟨_, rfl⟩
          rw [hmm] at y3 hl
          have hcs : BV.cs x = #[.int .i64 x.nu, .int .i64 x.zo, .int .i64 x.ro, .slice la m lc] := by unfold BV.cs; rw [hl]
          have hKx := Lib.hid (fun W (hf : Fr (fun _ => False) wr W) => rKind W x s (hbk.keep hf (fun _ _ _ e => e)))
          have hLx := Lib.hid (fun W (hf : Fr (fun _ => False) wr W) => rLeft1 W x (hbk.keep hf (fun _ _ _ e => e)))
          rw [hcs] at hKx hLx
          obtain ⟨KX, hKX⟩ : ∃ K, kindE x.e s = K := ⟨_, rfl⟩
          obtain ⟨LX, hLX⟩ : ∃ K, leftE x.e = K := ⟨_, rfl⟩
          have hKXr : 0 ≤ KX ∧ KX ≤ 3 := by rw [← hKX]; unfold kindE; split <;> (try split) <;> (try split) <;> omega
          have hiff := hel.out k x.e hMx
          obtain ⟨A, hA⟩ : ∃ A, KX + 1 = A := ⟨_, rfl⟩
          rw [hKX] at hKx hiff; rw [hLX] at hLx; rw [hA] at hKx
          have HA1 := Lib.hid hA
          have HX := Lib.hid hx; have HMX := Lib.hid hMx; have HKX := Lib.hid hKX; have HLX := Lib.hid hLX; have HIFF := Lib.hid hiff
          obtain ⟨U, hU⟩ : ∃ U, decide ((k : Int) ∈ ord.take j) = U := ⟨_, rfl⟩
          rw [hU] at u0
          have HU := Lib.hid hU
          clear hzs hbk hx hMx hl hmm hcs hKX hLX hiff hU hA
          cases U with
          | true =>
            have hnew := Lib.hid (HSC.out.skip (fun e => (HIFF.out.1 e).1 (of_decide_eq_true HU.out)))
            go_wp2_with fail
            go_roundw
            case rel => exact ⟨k + 1, _, by omega, by go_num, rfl, hnew.out, HFQ.out⟩
            case measure => simp [intOf]; omega
          | false =>
            have hnu : (k : Int) ∉ ord.take j := of_decide_eq_false HU.out
            have HNU := Lib.hid hnu
            clear hnu
            by_cases hk3 : KX = 3
            · have hnew := Lib.hid (HSC.out.skip (fun e => (HIFF.out.1 e).2 hk3))
              have hkb : (A == 4) = true := by have := HA1.out; simp; omega
              clear hk3
              go_wp2_with (go_at_call 87; refine (hKx.out _ (Fr.refl _ _)).mono ?_; rintro e w4 ⟨rfl, hf4⟩; have HF4 := Lib.hid hf4; clear hf4)
              go_roundw
              case rel => exact ⟨k + 1, _, by omega, by go_num, rfl, hnew.out, HFQ.out.trans HF4.out⟩
              case measure => simp [intOf]; omega
            · have hkb : (A == 4) = false := by have := HA1.out; simp; omega
              have HEL := Lib.hid (HIFF.out.2 ⟨HNU.out, hk3⟩)
              clear hk3
              have hbc : bst < 0 ∨ ∃ b : Nat, bst = (b : Int) ∧ b < N := by
                rcases HSC.out with ⟨e, -⟩ | ⟨b, e, hb, hb2, -⟩
                · exact .inl (by omega)
                · exact .inr ⟨b, e, by omega⟩
              rcases hbc with hbn | ⟨b, rfl, hbN⟩
              · have hnew := Lib.hid (HSC.out.first hbn HEL.out)
                go_wp2_with (go_at_call 87; refine (hKx.out _ (Fr.refl _ _)).mono ?_; rintro e w4 ⟨rfl, hf4⟩; have HF4 := Lib.hid hf4; clear hf4)
                go_roundw
                case rel => exact ⟨k + 1, _, by omega, by go_num, rfl, hnew.out, HFQ.out.trans HF4.out⟩
                case measure => simp [intOf]; omega
              · have hbI : (b : Int) < N := by omega
                have hbn : ¬ (b : Int) < 0 := by omega
                obtain ⟨y, hy⟩ : ∃ y, L[b]? = some y := ⟨L[b]'(by rw [HN.out]; exact hbN), List.getElem?_eq_getElem _⟩
                have hMy : M[b]? = some y.e := by rw [← HM.out, List.getElem?_map, hy]; rfl
                obtain ⟨-, -, hzs⟩ := HFX.out wr hFRQ.out
                obtain ⟨x0, x1, x2, x3, hbk⟩ := hzs b y hy
                obtain ⟨lb, ld, hl⟩ := HSLX.out y (List.mem_of_getElem? hy)
                rw [hl] at x3
                obtain ⟨m', hmm⟩ : ∃ m, y.its.length = m := ⟨_, rfl⟩
                rw [hmm] at x3 hl
                have hcs : BV.cs y = #[.int .i64 y.nu, .int .i64 y.zo, .int .i64 y.ro, .slice lb m' ld] := by unfold BV.cs; rw [hl]
                have hKy := Lib.hid (fun W (hf : Fr (fun _ => False) wr W) => rKind W y s (hbk.keep hf (fun _ _ _ e => e)))
                have hLy := Lib.hid (fun W (hf : Fr (fun _ => False) wr W) => rLeft1 W y (hbk.keep hf (fun _ _ _ e => e)))
                rw [hcs] at hKy hLy
                obtain ⟨KY, hKY⟩ : ∃ K, kindE y.e s = K := ⟨_, rfl⟩
                obtain ⟨LY, hLY⟩ : ∃ K, leftE y.e = K := ⟨_, rfl⟩
                have hKYr : 0 ≤ KY ∧ KY ≤ 3 := by rw [← hKY]; unfold kindE; split <;> (try split) <;> (try split) <;> omega
                obtain ⟨B, hB⟩ : ∃ B, KY + 1 = B := ⟨_, rfl⟩
                rw [hKY] at hKy; rw [hLY] at hLy; rw [hB] at hKy
                have HB1 := Lib.hid hB
                have hcf : cfI M (cfPut s) (k : Int) (b : Int) < 0 ↔ KX < KY ∨ (KX = KY ∧ KX = 0 ∧ LX < LY) := by
                  rw [cfI_at HMX.out hMy, cfPut_lt, HKX.out, hKY, HLX.out, hLY]
                have HCF := Lib.hid hcf
                clear hy hMy hzs hbk hl hmm hcs hKY hLY hcf hB
                have Z0 := Lib.hid z0; have Y0 := Lib.hid y0; have Y1 := Lib.hid y1; have Y2 := Lib.hid y2; have Y3 := Lib.hid y3; have X0 := Lib.hid x0; have X1 := Lib.hid x1; have X2 := Lib.hid x2; have X3 := Lib.hid x3
                -- both kinds
                go_wp2_with (go_at_call 87; refine (hKx.out _ (Fr.refl _ _)).mono ?_; rintro e w4 ⟨rfl, hf4⟩; have HF4 := Lib.hid hf4; clear hf4)
                have z0 := FrW.cell (HF4.out.cell z0 (fun e => e)); have y0 := FrW.cell (HF4.out.cell y0 (fun e => e)); have y1 := FrW.cell (HF4.out.cell y1 (fun e => e)); have y2 := FrW.cell (HF4.out.cell y2 (fun e => e)); have y3 := FrW.cell (HF4.out.cell y3 (fun e => e))
                have x0 := FrW.cell (HF4.out.cell x0 (fun e => e)); have x1 := FrW.cell (HF4.out.cell x1 (fun e => e)); have x2 := FrW.cell (HF4.out.cell x2 (fun e => e)); have x3 := FrW.cell (HF4.out.cell x3 (fun e => e))
                refine wp_region_fr (by kernel_rfl) (by kernel_rfl) ?_
                repeat (go_big_quiet_step ((go_at_call 87; rename_i Y; (first | (with_reducible refine (hKx.out Y.val (HF4.out.trans Y.fr)).mono ?_) | (with_reducible refine (hKy.out Y.val (HF4.out.trans Y.fr)).mono ?_)); rintro e w5 ⟨rfl, hF⟩; exact ⟨rfl, ⟨w5, Y.fr.trans hF⟩, rfl⟩)))
                refine wpQuiet_nil ?_
                rintro V ⟨⟨_, hV⟩, rfl⟩
                have hF5 := HF4.out.trans hV
                have HF5 := Lib.hid hF5
                clear z0 y0 y1 y2 y3 x0 x1 x2 x3
                have z0 := FrW.cell (hF5.cell Z0.out (fun e => e)); have y0 := FrW.cell (hF5.cell Y0.out (fun e => e)); have y1 := FrW.cell (hF5.cell Y1.out (fun e => e)); have y2 := FrW.cell (hF5.cell Y2.out (fun e => e)); have y3 := FrW.cell (hF5.cell Y3.out (fun e => e))
                have x0 := FrW.cell (hF5.cell X0.out (fun e => e)); have x1 := FrW.cell (hF5.cell X1.out (fun e => e)); have x2 := FrW.cell (hF5.cell X2.out (fun e => e)); have x3 := FrW.cell (hF5.cell X3.out (fun e => e))
                have hway : Hid ((A < B) ∨ (¬ A < B ∧ A = 1 ∧ B = 1 ∧ LX < LY) ∨ (¬ A < B ∧ A = 1 ∧ B = 1 ∧ ¬ LX < LY) ∨ (¬ A < B ∧ A = 1 ∧ ¬ B = 1) ∨ (¬ A < B ∧ ¬ A = 1)) := Lib.hid (by omega)
                clear hV hF5
                rcases hway.out with h1 | ⟨h1, h2, h3, h4⟩ | ⟨h1, h2, h3, h4⟩ | ⟨h1, h2, h3⟩ | ⟨h1, h2⟩
                · have hd1 : decide (A < B) = true := decide_eq_true h1
                  have hnew := Lib.hid (Sc.less HSWO.out HSC.out HEL.out (HCF.out.2 (by have := HA1.out; have := HB1.out; omega)))
                  go_wp2_with fail
                  refine wp_region_fr (by kernel_rfl) (by kernel_rfl) ?_
                  repeat (go_big_quiet_step ((go_at_call 27; rename_i Y; (first | (with_reducible refine (hLx.out Y.val (HF5.out.trans Y.fr)).mono ?_) | (with_reducible refine (hLy.out Y.val (HF5.out.trans Y.fr)).mono ?_)); rintro e w5 ⟨rfl, hF⟩; exact ⟨rfl, ⟨w5, Y.fr.trans hF⟩, rfl⟩)))
                  refine wpQuiet_nil ?_
                  rintro V2 ⟨⟨_, hV2⟩, rfl⟩
                  go_wp2_with fail
                  go_roundw
                  case rel => exact ⟨k + 1, _, by omega, by go_num, rfl, hnew.out, HFQ.out.trans (HF5.out.trans hV2)⟩
                  case measure => simp [intOf]; omega
                · have hd1 : decide (A < B) = false := decide_eq_false h1
                  have hd2 : (A == 1) = true := by simpa using h2
                  have hd3 : (B == 1) = true := by simpa using h3
                  have hd4 : decide (LX < LY) = true := decide_eq_true h4
                  have hnew := Lib.hid (Sc.less HSWO.out HSC.out HEL.out (HCF.out.2 (by have := HA1.out; have := HB1.out; omega)))
                  clear h2 h3
                  go_wp2_with fail
                  refine wp_region_fr (by kernel_rfl) (by kernel_rfl) ?_
                  repeat (go_big_quiet_step ((go_at_call 27; rename_i Y; (first | (with_reducible refine (hLx.out Y.val (HF5.out.trans Y.fr)).mono ?_) | (with_reducible refine (hLy.out Y.val (HF5.out.trans Y.fr)).mono ?_)); rintro e w5 ⟨rfl, hF⟩; exact ⟨rfl, ⟨w5, Y.fr.trans hF⟩, rfl⟩)))
                  refine wpQuiet_nil ?_
                  rintro V2 ⟨⟨_, hV2⟩, rfl⟩
                  go_wp2_with fail
                  go_roundw
                  case rel => exact ⟨k + 1, _, by omega, by go_num, rfl, hnew.out, HFQ.out.trans (HF5.out.trans hV2)⟩
                  case measure => simp [intOf]; omega
                · have hd1 : decide (A < B) = false := decide_eq_false h1
                  have hd2 : (A == 1) = true := by simpa using h2
                  have hd3 : (B == 1) = true := by simpa using h3
                  have hd4 : decide (LX < LY) = false := decide_eq_false h4
                  have hnew := Lib.hid (Sc.more HSC.out (fun e => by have := HCF.out.1 e; have := HA1.out; have := HB1.out; omega))
                  clear h2 h3
                  go_wp2_with fail
                  refine wp_region_fr (by kernel_rfl) (by kernel_rfl) ?_
                  repeat (go_big_quiet_step ((go_at_call 27; rename_i Y; (first | (with_reducible refine (hLx.out Y.val (HF5.out.trans Y.fr)).mono ?_) | (with_reducible refine (hLy.out Y.val (HF5.out.trans Y.fr)).mono ?_)); rintro e w5 ⟨rfl, hF⟩; exact ⟨rfl, ⟨w5, Y.fr.trans hF⟩, rfl⟩)))
                  refine wpQuiet_nil ?_
                  rintro V2 ⟨⟨_, hV2⟩, rfl⟩
                  go_wp2_with fail
                  go_roundw
                  case rel => exact ⟨k + 1, _, by omega, by go_num, rfl, hnew.out, HFQ.out.trans (HF5.out.trans hV2)⟩
                  case measure => simp [intOf]; omega
                · have hd1 : decide (A < B) = false := decide_eq_false h1
                  have hd2 : (A == 1) = true := by simpa using h2
                  have hd3 : (B == 1) = false := by simpa using h3
                  have hnew := Lib.hid (Sc.more HSC.out (fun e => by have := HCF.out.1 e; have := HA1.out; have := HB1.out; omega))
                  clear h2 h3
                  go_wp2_with fail
                  refine wp_region_fr (by kernel_rfl) (by kernel_rfl) ?_
                  repeat (go_big_quiet_step ((go_at_call 27; rename_i Y; (first | (with_reducible refine (hLx.out Y.val (HF5.out.trans Y.fr)).mono ?_) | (with_reducible refine (hLy.out Y.val (HF5.out.trans Y.fr)).mono ?_)); rintro e w5 ⟨rfl, hF⟩; exact ⟨rfl, ⟨w5, Y.fr.trans hF⟩, rfl⟩)))
                  refine wpQuiet_nil ?_
                  rintro V2 ⟨⟨_, hV2⟩, rfl⟩
                  go_wp2_with fail
                  go_roundw
                  case rel => exact ⟨k + 1, _, by omega, by go_num, rfl, hnew.out, HFQ.out.trans (HF5.out.trans hV2)⟩
                  case measure => simp [intOf]; omega
                · have hd1 : decide (A < B) = false := decide_eq_false h1
                  have hd2 : (A == 1) = false := by simpa using h2
                  have hnew := Lib.hid (Sc.more HSC.out (fun e => by have := HCF.out.1 e; have := HA1.out; have := HB1.out; omega))
                  clear h2
                  go_wp2_with fail
                  refine wp_region_fr (by kernel_rfl) (by kernel_rfl) ?_
                  repeat (go_big_quiet_step ((go_at_call 27; rename_i Y; (first | (with_reducible refine (hLx.out Y.val (HF5.out.trans Y.fr)).mono ?_) | (with_reducible refine (hLy.out Y.val (HF5.out.trans Y.fr)).mono ?_)); rintro e w5 ⟨rfl, hF⟩; exact ⟨rfl, ⟨w5, Y.fr.trans hF⟩, rfl⟩)))
                  refine wpQuiet_nil ?_
                  rintro V2 ⟨⟨_, hV2⟩, rfl⟩
                  go_wp2_with fail
                  go_roundw
                  case rel => exact ⟨k + 1, _, by omega, by go_num, rfl, hnew.out, HFQ.out.trans (HF5.out.trans hV2)⟩
                  case measure => simp [intOf]; omega
        · obtain rfl : k = N := by omega
          have hkI : ¬ (k : Int) < k := by omega
          have hpk := Sc.pick (M := M) (isF := fun b => kindE b s != 3) (cf := cfPut s) HSWO.out (j := j) (best := bst) (by rw [HORD.out, HMN.out]; exact HSC.out)
          rw [HORD.out, HMN.out] at hpk
          rcases hpk with ⟨rfl, hend⟩ | ⟨b, rfl, hob, hbN⟩
          · have hfull : Hid (0 < (putF M s n).2.1) := Lib.hid (by
              have h1 := HTF.out
              have h2 := HF2.out
              rw [List.take_of_length_le hend] at h2
              rw [h1, h2]
              exact hpos)
            go_wp2_with fail
            rw [← HPP.out]
            exact .inl ⟨hfull.out, rfl, HIQ.out.fr⟩
          · obtain ⟨y, hy⟩ : ∃ y, Lj[b]? = some y := ⟨Lj[b]'(by rw [HI.out.len]; exact hbN), List.getElem?_eq_getElem _⟩
            have hbI : (b : Int) < k := by omega
            have hbn : ¬ (b : Int) < 0 := by omega
            have hin : (b : Int) ∈ ord.drop j := by
              have hb1 := List.getElem?_eq_some_iff.1 hob
              rw [← hb1.2]
              exact List.mem_drop_iff_getElem.2 ⟨0, by simpa using hb1.1, by simp⟩
            have hnt : (b : Int) ∉ ord.take j := fun e => hnd.out b e hin
            have hMb := hrow.out b hnt y hy
            have hkind := ((hel.out b y.e hMb).1 hin).2
            obtain ⟨u0, uf⟩ := HUQ.out.cell hbN
            obtain ⟨W1, hW1⟩ : ∃ W, wr.setCell ⟨ru, b, none⟩ (.bool true) = W := ⟨_, rfl⟩
            have hfs1 : Fr (fun c => c = ru) wr W1 := by rw [← hW1]; exact (Fr.refl (fun c => c = ru) wr).setCell (p := ⟨ru, b, none⟩) (fun _ => rfl) _
            have hi1 : SrI w (fun c => TS c ∧ c ≠ g) r cap k BEok W1 Lj (.slice ao out.length ac) out := HIQ.out.keepU hfs1 (by have := HRU.out.2; omega) (fun e => by
              obtain ⟨cx, hcx⟩ := own_ty HIQ.out.out e
              obtain ⟨cy, hcy, -⟩ := HUQ.out
              exact ty_ne hcx hcy (by decide) rfl) HITS.out HRU.out.1
            have hu1 : UsI W1 ru k (fun i => decide ((i : Int) ∈ ord.take (j + 1))) := by
              have := HUQ.out.set (b := b)
              rw [hW1] at this
              have e : (fun i : Nat => if i = b then true else decide ((i : Int) ∈ ord.take j)) = fun i : Nat => decide ((i : Int) ∈ ord.take (j + 1)) := by
                funext i
                rw [List.take_add_one, hob]
                by_cases e : i = b
                · subst e; simp
                · rw [if_neg e]
                  congr 1
                  simp only [Option.toList_some, List.mem_append, List.mem_singleton, eq_iff_iff]
                  constructor
                  · exact .inl
                  · rintro (h | h)
                    · exact h
                    · exact absurd (by omega) e
              rw [e] at this
              exact this
            have HMU : Hid (∀ W, UsI W ru k (fun i => decide ((i : Int) ∈ ord.take (j + 1))) → muU W ru k < ((List.range k).filter fun (i : Nat) => !decide ((i : Int) ∈ ord.take j)).length) := Lib.hid (fun W hw => by
              rw [muU_eq hw]
              refine count_less _ (fun x _ hx => ?_) ⟨b, List.mem_range.2 hbN, by simpa using hnt, by rw [List.take_add_one, hob]; simp⟩
              simp only [Bool.not_eq_true', decide_eq_false_iff_not] at hx ⊢
              exact fun e => hx (by rw [List.take_add_one]; exact List.mem_append_left _ e))
            obtain ⟨p0, p1, p2, p3, -⟩ := hi1.cells hy
            obtain ⟨hbk, hbe, -⟩ := hi1.bins y (List.mem_of_getElem? hy)
            obtain ⟨la, lc, hl⟩ := hbk.l.sl
            rw [hl] at p3
            have hLE0 := hbe.left.2
            have hOY0 := (hbe.ofs s).2
            have hstep := step_some (can := leftE) (nE := fun b k => ofF b.its s + k) (s := s) (M := Lj.map BV.e) (n := nj) (o := out) (i := b) (b := y.e) (by rw [List.getElem?_map, hy]; rfl)
            have hF3 : (ord.take (j + 1)).foldl ST (M, n, []) = ST (Lj.map BV.e, nj, out) (b : Int) := by
              rw [List.take_add_one, hob, List.foldl_append, HF2.out]; rfl
            rw [← HST.out, hstep, HST.out] at hF3
            have hbt := fun K h0 h1 => beok_put (b := y.e) (s := s) (k := K) hbe HGS.out hkind h0 h1
            have hri := may_rise hbe
            have h16 := hbe.items.1
            have hSt := Lib.hid (fun W (hb : BOk W y) (m : Int) (h0 : 0 ≤ m) (h1 : m ≤ 2199023255552) => rSet W y s m hb HSS.out (by unfold okI; omega) h0 hri (by have : y.e.its.length = y.its.length := rfl; omega))
            have hLe := Lib.hid (fun W (hb : BOk W y) => rLeft1 W y hb)
            have hOy := Lib.hid (fun W (hb : BOk W y) => r6OfB W y.l y.its s hb.l)
            rw [hl] at hOy
            obtain ⟨LE, hLEe⟩ : ∃ H, leftE y.e = H := ⟨_, rfl⟩
            obtain ⟨OY, hOYe⟩ : ∃ H, ofF y.its s = H := ⟨_, rfl⟩
            have hOYe' : ofF y.e.its s = OY := hOYe
            rw [hOYe] at hOy; rw [hLEe] at hLe hLE0 hF3 hbt; rw [hOYe'] at hOY0 hF3 hbt
            obtain ⟨m, hmm⟩ : ∃ m, y.its.length = m := ⟨_, rfl⟩
            rw [hmm] at p3 hl hOy
            have hcs : BV.cs y = #[.int .i64 y.nu, .int .i64 y.zo, .int .i64 y.ro, .slice la m lc] := by unfold BV.cs; rw [hl]
            rw [hcs] at hSt hLe
            have HY := Lib.hid hy; have HL := Lib.hid hl; have HBT := Lib.hid hbt; have HF3 := Lib.hid hF3; have HOB := Lib.hid hob; have HBK := Lib.hid hbk; have HI1 := Lib.hid hi1; have HU1 := Lib.hid hu1
            have hj1 : Hid (j < ord.length) := Lib.hid (List.getElem?_eq_some_iff.1 hob).1
            have hways : (¬ 0 < LE) ∨ (0 < LE ∧ nj < LE ∧ min nj LE = nj) ∨ (0 < LE ∧ ¬ nj < LE ∧ min nj LE = LE) := by omega
            clear hy hbk hbe hl hin hnt hMb hkind hstep hF3 hbt hri h16 hLEe hOYe hOYe' hmm hcs hob hfs1 hi1 hu1
            rcases hways with hle | ⟨hle, hgt, hK⟩ | ⟨hle, hgt, hK⟩
            · have hF4 : Hid ((ord.take (j + 1)).foldl ST (M, n, []) = (Lj.map BV.e, nj, out)) := Lib.hid (by rw [HF3.out, if_pos (by omega)])
              have hng : ¬ nj < LE := by omega
              go_wp2_with (go_at_call 27; refine (hLe.out _ HBK.out).mono ?_; rintro e w5 ⟨rfl, hf5⟩; have HI5 := Lib.hid (HI1.out.keep0 hf5); have HU5 := Lib.hid (HU1.out.keep hf5 (fun e => e)); clear hf5)
              go_roundw
              case rel => exact ⟨j + 1, nj, Lj, out, hj1.out, rfl, hnn, hnle, by have := HOL.out; omega, hF4.out, HI5.out, HOP.out, HU5.out, HITS.out⟩
              case measure => rw [HMUE.out]; exact HMU.out _ HU5.out
            · have hF4 := HF3.out
              rw [hK, if_neg (by omega)] at hF4
              have hKb : 0 < nj ∧ nj ≤ LE ∧ nj ≤ nj := by omega
              have hNe : nj - nj = 0 := by omega
              rw [hNe] at hF4
              have HF4 := Lib.hid hF4; have HKB := Lib.hid hKb; have HNE := Lib.hid hNe
              have HBT2 := Lib.hid (HBT.out nj hKb.1 hKb.2.1)
              have hwa : IntKind.i64.wrap (OY + nj) = OY + nj := IntWalk.i64_in _ ⟨by omega, by omega⟩
              have hwb : IntKind.i64.wrap (nj - nj) = nj - nj := IntWalk.i64_in _ ⟨by omega, by omega⟩
              have HA0 : Hid (0 ≤ OY + nj ∧ OY + nj ≤ 2199023255552) := Lib.hid (by omega)
              clear hK hF4 hKb hNe
              go_wp2_with (go_at_call 27; refine (hLe.out _ HBK.out).mono ?_; rintro e w5 ⟨rfl, hf5⟩; have HI5 := Lib.hid (HI1.out.keep0 hf5); have HU5 := Lib.hid (HU1.out.keep hf5 (fun e => e)); clear hf5)
              obtain ⟨p0, p1, p2, p3, -⟩ := HI5.out.cells HY.out
              rw [HL.out] at p3
              refine wp_region_eff [(16, true), (18, false)] [] 12 (by kernel_rfl) rfl (by kernel_rfl) (by kernel_rfl) ?_
              apply Exists.intro
              refine ⟨?hh, ?pu, ?ef⟩
              case hh =>
                intro X
                have p0 := FrW.cell (X.fr.cell p0 (fun e => e)); have p1 := FrW.cell (X.fr.cell p1 (fun e => e)); have p2 := FrW.cell (X.fr.cell p2 (fun e => e)); have p3 := FrW.cell (X.fr.cell p3 (fun e => e))
                simp (config := { decide := true }) only [boxedF, efIdx, List.map_cons, List.map_nil, idleU, if_true, if_false, ite_true, ite_false]
                repeat (go_big_quiet_step ((go_at_call 62; rename_i Y; refine (hOy.out Y.val ((HI5.out.keep0 (X.fr.trans Y.fr)).bins y (List.mem_of_getElem? HY.out)).1).mono ?_; rintro e w2 ⟨rfl, rfl⟩; exact ⟨rfl, Y, rfl⟩)))
                exact wpQuiet_nil rfl
              case pu =>
                intro i' hi' o ho
                cases hi'
              case ef =>
                simp only [efOps, List.filterMap_cons, List.filterMap_nil, List.getElem?_cons_succ, List.getElem?_cons_zero, Option.map_some]
                clear p0 p1 p2 p3
                intro w13 hw13
                have HI13 := Lib.hid (HI5.out.keep0 hw13)
                have HU13 := Lib.hid (HU5.out.keep hw13 (fun e => e))
                clear hw13
                go_wp2_with (go_at_call 88; refine (hSt.out _ (HI13.out.bins y (List.mem_of_getElem? HY.out)).1 (OY + nj) HA0.out.1 HA0.out.2).mono ?_; rintro e w14 ⟨vy, rfl, hb3, hv3, hf3⟩; obtain ⟨ua, uc, hve⟩ := hb3.l.sl; dsimp only [BV.put] at hve; subst hve; have HB14 := Lib.hid hb3; have HV14 := Lib.hid hv3; have HF14 := Lib.hid hf3; dsimp only [BV.cs, BV.put]; clear hb3 hv3 hf3)
                refine ⟨HF14.out, ?_⟩
                intro w15 hw15
                have hf35 : Fr (fun _ => False) w13 w15 := HF14.out.trans hw15
                have hi5 := HI13.out.keep0 hf35
                obtain ⟨p0, p1, p2, p3, pf⟩ := hi5.cells HY.out
                rw [HL.out] at p3
                have f0 := pf (b * 4); have f1 := pf (b * 4 + 1); have f2 := pf (b * 4 + 2); have f3 := pf (b * 4 + 3)
                have hlow : Hid (∀ c, (Value.slice ua (setF y.its s (OY + nj)).length uc).ownBlock = some c → ru < c) := Lib.hid (fun c hc => by
                  have h1 := (HV14.out c hc).1
                  obtain ⟨cu, k1, -⟩ := HU13.out
                  have h2 := (Array.getElem?_eq_some_iff.1 k1).1
                  omega)
                have hi6 := hi5.store HY.out (HB14.out.keep hw15 (fun _ _ _ e => e)) HBT2.out (fun c hc => by
                  have h1 := (HV14.out c hc).1
                  obtain ⟨⟨cur, k1, -⟩, -⟩ := HI13.out
                  have h2 := (Array.getElem?_eq_some_iff.1 k1).1
                  exact ⟨by omega, (fun e => by have := (HI13.out.out.lt c e).2; omega), .inr (by have := HI13.out.fr.size; omega)⟩)
                have hq0 := (hi6.cells (i := b) (x := y.put (.slice ua (setF y.its s (OY + nj)).length uc) s (OY + nj)) (by rw [List.getElem?_set]; simp; have := (List.getElem?_eq_some_iff.1 HY.out).1; omega)).1
                obtain ⟨W6, hW6⟩ : ∃ W, ((((w15.setCell ⟨r, b * 4, none⟩ (.int .i64 y.nu)).setCell ⟨r, b * 4 + 1, none⟩ (.int .i64 y.zo)).setCell ⟨r, b * 4 + 2, none⟩ (.int .i64 y.ro)).setCell ⟨r, b * 4 + 3, none⟩ (.slice ua (setF y.its s (OY + nj)).length uc)) = W := ⟨_, rfl⟩
                have hi6' : SrI w (fun c => TS c ∧ c ≠ g) r cap k BEok W6 (Lj.set b (y.put (.slice ua (setF y.its s (OY + nj)).length uc) s (OY + nj))) (.slice ao out.length ac) out := by rw [← hW6]; exact hi6
                have hfr6 : Fr (fun c => c = r) w15 W6 := by
                  rw [← hW6]
                  exact Fr.setCell (S := fun c => c = r) (Fr.setCell (S := fun c => c = r) (Fr.setCell (S := fun c => c = r) (Fr.setCell (S := fun c => c = r) (Fr.refl _ _) (p := ⟨r, b * 4, none⟩) (fun _ => rfl) _) (p := ⟨r, b * 4 + 1, none⟩) (fun _ => rfl) _) (p := ⟨r, b * 4 + 2, none⟩) (fun _ => rfl) _) (p := ⟨r, b * 4 + 3, none⟩) (fun _ => rfl) _
                have hu6 : UsI W6 ru k (fun i => decide ((i : Int) ∈ ord.take (j + 1))) := (HU13.out.keep hf35 (fun e => e)).keep hfr6 (fun e => by have := HRU.out.2; have e : ru = r := e; omega)
                have hq0 : W6.cell? ⟨r, b * 4, none⟩ = some (.int .i64 y.nu) := by rw [← hW6]; exact hq0
                have HI6 := Lib.hid hi6'; have HU6 := Lib.hid hu6
                have HQ0 := Lib.hid hq0
                clear hi5 hi6 hi6' pf hf35 hfr6 hu6 hq0
                go_wp2_with fail
                (try rw [hW6])
                clear p0 p1 p2 p3 f0 f1 f2 f3 hW6
                intro w17 hw17
                have HI7 := Lib.hid (HI6.out.keep0 hw17); have HU7 := Lib.hid (HU6.out.keep hw17 (fun e => e))
                have hq0 := hw17.cell HQ0.out (fun e => e)
                clear hw17
                go_wp2_with (at_builtin; refine wpList_append_src rfl _ _ 43 rfl w.heap.size 47 i0 (.agg #[.int .i64 0, .string ⟨#[]⟩, .int .i64 0]) 32 Tryz.underlying43 hi' hz0 hz1 hz2 rfl (by decide) (.slice ao out.length ac) out.length (flat pvC out) rfl (((Fr.refl (fun _ => False) w17).alloc _).row HI7.out.out (fun _ _ e => e)) 1 rfl (rd_obj (cs := [.int .i64 y.nu, vS s, .int .i64 nj]) (heap_new _ _) rfl) (by intro u hu; simp only [List.mem_cons, List.not_mem_nil, or_false] at hu; rcases hu with rfl | rfl | rfl <;> rfl) (by have := HOL.out; have := HJ.out; have := HORL.out; unfold maxLen; omega) (by have := HOL.out; have := HJ.out; have := HORL.out; omega) (by have := HI7.out.fr.size; simp; omega) ?_; intro v5 w18 hown5 hgrow5 hloc5; have HI8 := Lib.hid ((HI7.out.keep0 ((Fr.refl (fun _ => False) w17).alloc _)).push (p := ⟨y.nu, s, nj⟩) hown5 hgrow5 hloc5); have HU8 := Lib.hid ((HU7.out.keep ((Fr.refl (fun _ => False) w17).alloc _) (fun e => e)).keep (Fr.grown (S := fun c => (Value.slice ao out.length ac).ownBlock = some c) hgrow5 (fun c hc _ => hc)) (fun e => by obtain ⟨cx, hcx⟩ := own_ty HI7.out.out e; obtain ⟨cy, hcy, -⟩ := HU7.out; exact ty_ne hcx hcy (by decide) rfl)); obtain ⟨a5, c5, rfl⟩ := row_sl hown5; clear hown5 hgrow5 hloc5)
                go_roundw
                case rel =>
                  refine ⟨j + 1, 0, _, out ++ [⟨y.nu, s, nj⟩], hj1.out, by first | rfl | (rw [← HNE.out]), by have := HKB.out; omega, by have := HKB.out; omega, by rw [List.length_append]; have := HOL.out; simp; omega, ?_, HI8.out, fun p hp => ?_, HU8.out, fun x hx hne c hc => ?_⟩
                  · rw [HF4.out, List.map_set]; rfl
                  · rcases List.mem_append.1 hp with hp | hp
                    · exact HOP.out p hp
                    · rw [List.mem_singleton.1 hp]
                      exact ⟨HBK.out.nu, HSS.out, by have := HKB.out; unfold okI; dsimp only; omega⟩
                  · obtain ⟨q, hq⟩ := List.getElem?_of_mem hx
                    rcases set_get hq with ⟨rfl, rfl⟩ | ⟨-, hq2⟩
                    · have := hlow.out c hc; omega
                    · exact HITS.out x (List.mem_of_getElem? hq2) hne c hc
                case measure => rw [HMUE.out]; exact HMU.out _ HU8.out
            · have hF4 := HF3.out
              rw [hK, if_neg (by omega)] at hF4
              have hKb : 0 < LE ∧ LE ≤ LE ∧ LE ≤ nj := by omega
              have hNe : nj - LE = (nj - LE) := by omega
              rw [hNe] at hF4
              have HF4 := Lib.hid hF4; have HKB := Lib.hid hKb; have HNE := Lib.hid hNe
              have HBT2 := Lib.hid (HBT.out LE hKb.1 hKb.2.1)
              have hwa : IntKind.i64.wrap (OY + LE) = OY + LE := IntWalk.i64_in _ ⟨by omega, by omega⟩
              have hwb : IntKind.i64.wrap (nj - LE) = nj - LE := IntWalk.i64_in _ ⟨by omega, by omega⟩
              have HA0 : Hid (0 ≤ OY + LE ∧ OY + LE ≤ 2199023255552) := Lib.hid (by omega)
              clear hK hF4 hKb hNe
              go_wp2_with (go_at_call 27; refine (hLe.out _ HBK.out).mono ?_; rintro e w5 ⟨rfl, hf5⟩; have HI5 := Lib.hid (HI1.out.keep0 hf5); have HU5 := Lib.hid (HU1.out.keep hf5 (fun e => e)); clear hf5)
              obtain ⟨p0, p1, p2, p3, -⟩ := HI5.out.cells HY.out
              rw [HL.out] at p3
              refine wp_region_eff [(16, true), (18, false)] [] 12 (by kernel_rfl) rfl (by kernel_rfl) (by kernel_rfl) ?_
              apply Exists.intro
              refine ⟨?hh, ?pu, ?ef⟩
              case hh =>
                intro X
                have p0 := FrW.cell (X.fr.cell p0 (fun e => e)); have p1 := FrW.cell (X.fr.cell p1 (fun e => e)); have p2 := FrW.cell (X.fr.cell p2 (fun e => e)); have p3 := FrW.cell (X.fr.cell p3 (fun e => e))
                simp (config := { decide := true }) only [boxedF, efIdx, List.map_cons, List.map_nil, idleU, if_true, if_false, ite_true, ite_false]
                repeat (go_big_quiet_step ((go_at_call 62; rename_i Y; refine (hOy.out Y.val ((HI5.out.keep0 (X.fr.trans Y.fr)).bins y (List.mem_of_getElem? HY.out)).1).mono ?_; rintro e w2 ⟨rfl, rfl⟩; exact ⟨rfl, Y, rfl⟩)))
                exact wpQuiet_nil rfl
              case pu =>
                intro i' hi' o ho
                cases hi'
              case ef =>
                simp only [efOps, List.filterMap_cons, List.filterMap_nil, List.getElem?_cons_succ, List.getElem?_cons_zero, Option.map_some]
                clear p0 p1 p2 p3
                intro w13 hw13
                have HI13 := Lib.hid (HI5.out.keep0 hw13)
                have HU13 := Lib.hid (HU5.out.keep hw13 (fun e => e))
                clear hw13
                go_wp2_with (go_at_call 88; refine (hSt.out _ (HI13.out.bins y (List.mem_of_getElem? HY.out)).1 (OY + LE) HA0.out.1 HA0.out.2).mono ?_; rintro e w14 ⟨vy, rfl, hb3, hv3, hf3⟩; obtain ⟨ua, uc, hve⟩ := hb3.l.sl; dsimp only [BV.put] at hve; subst hve; have HB14 := Lib.hid hb3; have HV14 := Lib.hid hv3; have HF14 := Lib.hid hf3; dsimp only [BV.cs, BV.put]; clear hb3 hv3 hf3)
                refine ⟨HF14.out, ?_⟩
                intro w15 hw15
                have hf35 : Fr (fun _ => False) w13 w15 := HF14.out.trans hw15
                have hi5 := HI13.out.keep0 hf35
                obtain ⟨p0, p1, p2, p3, pf⟩ := hi5.cells HY.out
                rw [HL.out] at p3
                have f0 := pf (b * 4); have f1 := pf (b * 4 + 1); have f2 := pf (b * 4 + 2); have f3 := pf (b * 4 + 3)
                have hlow : Hid (∀ c, (Value.slice ua (setF y.its s (OY + LE)).length uc).ownBlock = some c → ru < c) := Lib.hid (fun c hc => by
                  have h1 := (HV14.out c hc).1
                  obtain ⟨cu, k1, -⟩ := HU13.out
                  have h2 := (Array.getElem?_eq_some_iff.1 k1).1
                  omega)
                have hi6 := hi5.store HY.out (HB14.out.keep hw15 (fun _ _ _ e => e)) HBT2.out (fun c hc => by
                  have h1 := (HV14.out c hc).1
                  obtain ⟨⟨cur, k1, -⟩, -⟩ := HI13.out
                  have h2 := (Array.getElem?_eq_some_iff.1 k1).1
                  exact ⟨by omega, (fun e => by have := (HI13.out.out.lt c e).2; omega), .inr (by have := HI13.out.fr.size; omega)⟩)
                have hq0 := (hi6.cells (i := b) (x := y.put (.slice ua (setF y.its s (OY + LE)).length uc) s (OY + LE)) (by rw [List.getElem?_set]; simp; have := (List.getElem?_eq_some_iff.1 HY.out).1; omega)).1
                obtain ⟨W6, hW6⟩ : ∃ W, ((((w15.setCell ⟨r, b * 4, none⟩ (.int .i64 y.nu)).setCell ⟨r, b * 4 + 1, none⟩ (.int .i64 y.zo)).setCell ⟨r, b * 4 + 2, none⟩ (.int .i64 y.ro)).setCell ⟨r, b * 4 + 3, none⟩ (.slice ua (setF y.its s (OY + LE)).length uc)) = W := ⟨_, rfl⟩
                have hi6' : SrI w (fun c => TS c ∧ c ≠ g) r cap k BEok W6 (Lj.set b (y.put (.slice ua (setF y.its s (OY + LE)).length uc) s (OY + LE))) (.slice ao out.length ac) out := by rw [← hW6]; exact hi6
                have hfr6 : Fr (fun c => c = r) w15 W6 := by
                  rw [← hW6]
                  exact Fr.setCell (S := fun c => c = r) (Fr.setCell (S := fun c => c = r) (Fr.setCell (S := fun c => c = r) (Fr.setCell (S := fun c => c = r) (Fr.refl _ _) (p := ⟨r, b * 4, none⟩) (fun _ => rfl) _) (p := ⟨r, b * 4 + 1, none⟩) (fun _ => rfl) _) (p := ⟨r, b * 4 + 2, none⟩) (fun _ => rfl) _) (p := ⟨r, b * 4 + 3, none⟩) (fun _ => rfl) _
                have hu6 : UsI W6 ru k (fun i => decide ((i : Int) ∈ ord.take (j + 1))) := (HU13.out.keep hf35 (fun e => e)).keep hfr6 (fun e => by have := HRU.out.2; have e : ru = r := e; omega)
                have hq0 : W6.cell? ⟨r, b * 4, none⟩ = some (.int .i64 y.nu) := by rw [← hW6]; exact hq0
                have HI6 := Lib.hid hi6'; have HU6 := Lib.hid hu6
                have HQ0 := Lib.hid hq0
                clear hi5 hi6 hi6' pf hf35 hfr6 hu6 hq0
                go_wp2_with fail
                (try rw [hW6])
                clear p0 p1 p2 p3 f0 f1 f2 f3 hW6
                intro w17 hw17
                have HI7 := Lib.hid (HI6.out.keep0 hw17); have HU7 := Lib.hid (HU6.out.keep hw17 (fun e => e))
                have hq0 := hw17.cell HQ0.out (fun e => e)
                clear hw17
                go_wp2_with (at_builtin; refine wpList_append_src rfl _ _ 43 rfl w.heap.size 47 i0 (.agg #[.int .i64 0, .string ⟨#[]⟩, .int .i64 0]) 32 Tryz.underlying43 hi' hz0 hz1 hz2 rfl (by decide) (.slice ao out.length ac) out.length (flat pvC out) rfl (((Fr.refl (fun _ => False) w17).alloc _).row HI7.out.out (fun _ _ e => e)) 1 rfl (rd_obj (cs := [.int .i64 y.nu, vS s, .int .i64 LE]) (heap_new _ _) rfl) (by intro u hu; simp only [List.mem_cons, List.not_mem_nil, or_false] at hu; rcases hu with rfl | rfl | rfl <;> rfl) (by have := HOL.out; have := HJ.out; have := HORL.out; unfold maxLen; omega) (by have := HOL.out; have := HJ.out; have := HORL.out; omega) (by have := HI7.out.fr.size; simp; omega) ?_; intro v5 w18 hown5 hgrow5 hloc5; have HI8 := Lib.hid ((HI7.out.keep0 ((Fr.refl (fun _ => False) w17).alloc _)).push (p := ⟨y.nu, s, LE⟩) hown5 hgrow5 hloc5); have HU8 := Lib.hid ((HU7.out.keep ((Fr.refl (fun _ => False) w17).alloc _) (fun e => e)).keep (Fr.grown (S := fun c => (Value.slice ao out.length ac).ownBlock = some c) hgrow5 (fun c hc _ => hc)) (fun e => by obtain ⟨cx, hcx⟩ := own_ty HI7.out.out e; obtain ⟨cy, hcy, -⟩ := HU7.out; exact ty_ne hcx hcy (by decide) rfl)); obtain ⟨a5, c5, rfl⟩ := row_sl hown5; clear hown5 hgrow5 hloc5)
                go_roundw
                case rel =>
                  refine ⟨j + 1, (nj - LE), _, out ++ [⟨y.nu, s, LE⟩], hj1.out, by first | rfl | (rw [← HNE.out]), by have := HKB.out; omega, by have := HKB.out; omega, by rw [List.length_append]; have := HOL.out; simp; omega, ?_, HI8.out, fun p hp => ?_, HU8.out, fun x hx hne c hc => ?_⟩
                  · rw [HF4.out, List.map_set]; rfl
                  · rcases List.mem_append.1 hp with hp | hp
                    · exact HOP.out p hp
                    · rw [List.mem_singleton.1 hp]
                      exact ⟨HBK.out.nu, HSS.out, by have := HKB.out; unfold okI; dsimp only; omega⟩
                  · obtain ⟨q, hq⟩ := List.getElem?_of_mem hx
                    rcases set_get hq with ⟨rfl, rfl⟩ | ⟨-, hq2⟩
                    · have := hlow.out c hc; omega
                    · exact HITS.out x (List.mem_of_getElem? hq2) hne c hc
                case measure => rw [HMUE.out]; exact HMU.out _ HU8.out
    · have hz : nj = 0 := by omega
      have hres : putF M s n = (Lj.map BV.e, nj, out) := by rw [HTF.out, ← HST.out]; exact fold_split (by rw [HST.out]; exact HF2.out) (by omega)
      have HRES := Lib.hid hres
      obtain ⟨-, gz, ⟨gv, gc⟩, -⟩ := SrI.done HA.out HN.out HI.out HCM.out
      clear hz hres
      go_wp2_with fail
      rw [← HPP.out, HRES.out]
      have hfin := SrI.fin HA.out HN.out HI.out HCM.out (M := Lj.map BV.e) rfl
      obtain ⟨-, -, -, -, hfs⟩ := SrI.done HA.out HN.out HI.out HCM.out
      obtain ⟨L', TS', k1, k2, k3⟩ := hfin
      refine .inr ⟨by dsimp only; omega, _, L', TS', rfl, ?_, k1, k2, k3⟩
      refine Sq.own pvSize (hfs.row HI.out.out (fun b hb e => ?_)) (fun p hp => HOP.out p hp)
      have h1 := (HI.out.out.lt b hb).1
      have h2 := HA.out.lt g HA.out.own
      have e : b = g := e
      omega
end Go.Proofs.YtefjdcghdcbojaaGreat

namespace Go.Proofs.YtefjdcghdcbojaaGreat
open Go.RowKit Go.Maps
theorem Pl.keepO {S : Nat → Prop} {w w' : World} {v : Value} {L : List PV} (h : Pl w v L) (hf : Fr S w w') (hS : L ≠ [] → ∀ b, v.ownBlock = some b → ¬ S b) : Pl w' v L := by
  obtain ⟨h0, a, cap, rfl, h1⟩ := h
  refine ⟨h0, a, cap, rfl, fun i r hr => ?_⟩
  obtain ⟨ho, ad, rfl, hc⟩ := h1 i r hr
  exact ⟨ho, ad, rfl, fun j u hu => hf.cell (hc j u hu) (by have := hS (fun e => by rw [e] at hr; simp at hr) ad.block rfl; unfold Addr.add; first | exact this | (split <;> exact this))⟩
def putA (M : List BE) (s : Str) (n : Int) : Int × List PV × List BE := if mayF s n = 0 then (if 0 < (putF M s n).2.1 then (2, [], M) else (0, (putF M s n).2.2, (putF M s n).1)) else (60, [], M)
def takeA (M : List BE) (s : Str) (n : Int) : Int × List PV × List BE := if mayF s n = 0 then (if 0 < (takeF M s n).2.1 then (51, [], M) else (0, (takeF M s n).2.2, (takeF M s n).1)) else (60, [], M)
/-- What a step leaves: bins that are in order, of the same numbers. -/
def Inv (M M' : List BE) : Prop := (∀ b ∈ M', BEok b) ∧ M'.map binI = M.map binI
theorem Inv.refl {M : List BE} (h : ∀ b ∈ M, BEok b) : Inv M M := ⟨h, rfl⟩
theorem putA_inv {M : List BE} {s : Str} {n : Int} (h : ∀ b ∈ M, BEok b) : Inv M (putA M s n).2.2 := by
  unfold putA
  split
  · rename_i hm
    split
    · exact Inv.refl h
    · exact putF_inv h (mayF_zero hm).1
  · exact Inv.refl h
theorem takeA_inv {M : List BE} {s : Str} {n : Int} (h : ∀ b ∈ M, BEok b) : Inv M (takeA M s n).2.2 := by
  unfold takeA
  split
  · rename_i hm
    split
    · exact Inv.refl h
    · exact takeF_inv h (mayF_zero hm).1
  · exact Inv.refl h
theorem Inv.set {M : List BE} {i : Nat} {b : BE} {s : Str} {m : Int} (h : ∀ b ∈ M, BEok b) (hb : M[i]? = some b) (hp : BEok (b.put s m)) : Inv M (M.set i (b.put s m)) := by
  refine ⟨fun x hx => ?_, ?_⟩
  · obtain ⟨q, hq⟩ := List.getElem?_of_mem hx
    rcases set_get hq with ⟨-, rfl⟩ | ⟨-, hq2⟩
    · exact hp
    · exact h x (List.mem_of_getElem? hq2)
  · rw [List.map_set]
    have e : binI (b.put s m) = binI b := rfl
    rw [e]
    refine List.ext_getElem? (fun q => ?_)
    rw [List.getElem?_set]
    split
    · rename_i e2
      subst e2
      rw [List.getElem?_map, hb]
      have := (List.getElem?_eq_some_iff.1 hb).1
      simp [this]
    · rfl
theorem countE_inv {M : List BE} {nu : Int} {s : Str} {n : Int} (h : ∀ b ∈ M, BEok b) : Inv M (countE M nu s n).2.2 := by
  unfold countE
  split
  · exact Inv.refl h
  split
  · exact Inv.refl h
  rename_i b hb
  split
  · rename_i hgm
    split
    · exact Inv.refl h
    · rename_i hk
      have hB := h b (List.mem_of_getElem? hb)
      have h0 : 0 ≤ n := (mayI_iff.1 hgm.2).1
      have hle := hB.left
      have hof := hB.ofs s
      have htot := hB.tot
      refine Inv.set h hb (beok_set hB hgm.1 h0 ?_ ?_)
      · by_cases h1 : 0 < n
        · have : kindE b s ≠ 3 := fun e => hk ⟨h1, .inl e⟩
          exact .inr (kind_room hB this)
        · exact .inl (by omega)
      · by_cases h1 : 0 < n
        · have : ¬ leftE b + ofF b.its s < n := fun e => hk ⟨h1, .inr e⟩
          omega
        · omega
  · exact Inv.refl h
theorem moveE_inv {M : List BE} {s : Str} {fr tt n : Int} (h : ∀ b ∈ M, BEok b) : Inv M (moveE M s fr tt n).2 := by
  unfold moveE
  split
  · rename_i i j hi hj
    split
    · exact Inv.refl h
    rename_i hij
    by_cases hm : mayF s n = 0
    · rw [if_neg (by simpa using hm)]
      obtain ⟨hg, h1, h2⟩ := mayF_zero hm
      split
      · rename_i x y hx hy
        split
        · exact Inv.refl h
        split
        · exact Inv.refl h
        · rename_i hlt hk
          have hX := h x (List.mem_of_getElem? hx)
          have hY := h y (List.mem_of_getElem? hy)
          have hk3 : kindE y s ≠ 3 := fun e => hk (.inl e)
          have hl : ¬ leftE y < n := fun e => hk (.inr e)
          have i1 := Inv.set h hx (s := s) (m := ofF x.its s - n) (beok_take hX hg (by omega) (by omega))
          have hy2 : (M.set i (x.put s (ofF x.its s - n)))[j]? = some y := by rw [List.getElem?_set, if_neg hij]; exact hy
          have i2 := Inv.set i1.1 hy2 (s := s) (m := ofF y.its s + n) (beok_put hY hg hk3 (by omega) (by omega))
          exact ⟨i2.1, i2.2.trans i1.2⟩
      · exact Inv.refl h
    · rw [if_pos (by simpa using hm)]
      exact Inv.refl h
  · exact Inv.refl h
structure PQ (w W : World) (g gx : Nat) (M N : List BE) (KF KX : Nat → Prop) : Prop where
  ex : ∃ TS TX L X, FA W g TS L ∧ RA W gx TX X ∧ L.map BV.e = M ∧ X.map BV.e = N ∧ (∀ b, TS b → w.heap.size ≤ b ∧ ¬ KF b ∧ ¬ TX b) ∧ ∀ b, TX b → w.heap.size ≤ b ∧ ¬ KX b
  lt : ∀ b, KF b ∨ KX b → b < W.heap.size
  fr : Fr (fun _ => False) w W
  okM : ∀ x ∈ M, BEok x
  okN : ∀ x ∈ N, BEok x
  lenM : 0 < M.length ∧ M.length ≤ 64
  lenN : 0 < N.length ∧ N.length ≤ 64
section
variable {w W W' : World} {g gx : Nat} {M N : List BE} {KF KX : Nat → Prop}
theorem PQ.less {KF' KX' : Nat → Prop} (h : PQ w W g gx M N KF KX) (h1 : ∀ b, KF' b → KF b) (h2 : ∀ b, KX' b → KX b) : PQ w W g gx M N KF' KX' := by
  obtain ⟨⟨TS, TX, L, X, p1, p2, p3, p4, p5, p6⟩, q1, q2, q3, q4, q5, q6⟩ := h
  exact ⟨⟨TS, TX, L, X, p1, p2, p3, p4, fun b hb => ⟨(p5 b hb).1, fun e => (p5 b hb).2.1 (h1 b e), (p5 b hb).2.2⟩, fun b hb => ⟨(p6 b hb).1, fun e => (p6 b hb).2 (h2 b e)⟩⟩, fun b hb => q1 b (hb.imp (h1 b) (h2 b)), q2, q3, q4, q5, q6⟩
/-- Behind what only lays blocks; blocks that are new may be kept from here on. -/
theorem PQ.more {KF' KX' : Nat → Prop} (h : PQ w W g gx M N KF KX) (hf : Fr (fun _ => False) W W') (h1 : ∀ b, KF' b → KF b ∨ (W.heap.size ≤ b ∧ b < W'.heap.size)) (h2 : ∀ b, KX' b → KX b ∨ (W.heap.size ≤ b ∧ b < W'.heap.size)) : PQ w W' g gx M N KF' KX' := by
  obtain ⟨⟨TS, TX, L, X, p1, p2, p3, p4, p5, p6⟩, q1, q2, q3, q4, q5, q6⟩ := h
  have hz := hf.size
  refine ⟨⟨TS, TX, L, X, p1.fr hf (fun _ _ e => e), p2.fr hf (fun _ _ e => e), p3, p4, fun b hb => ⟨(p5 b hb).1, fun e => ?_, (p5 b hb).2.2⟩, fun b hb => ⟨(p6 b hb).1, fun e => ?_⟩⟩, fun b hb => ?_, q2.trans hf, q3, q4, q5, q6⟩
  · rcases h1 b e with e | e
    · exact (p5 b hb).2.1 e
    · have := p1.lt b hb; omega
  · rcases h2 b e with e | e
    · exact (p6 b hb).2 e
    · have := p2.lt b hb; omega
  · rcases hb with hb | hb
    · rcases h1 b hb with e | e
      · have := q1 b (.inl e); omega
      · exact e.2
    · rcases h2 b hb with e | e
      · have := q1 b (.inr e); omega
      · exact e.2
theorem PQ.keep (h : PQ w W g gx M N KF KX) (hf : Fr (fun _ => False) W W') : PQ w W' g gx M N KF KX := h.more hf (fun _ e => .inl e) (fun _ e => .inl e)
theorem PQ.fsame {KX' : Nat → Prop} (h : PQ w W g gx M N KF KX) (hf : Fr (fun _ => False) W W') (h2 : ∀ b, KX' b → KX b ∨ (W.heap.size ≤ b ∧ b < W'.heap.size)) : PQ w W' g gx M N KF KX' ∧ Fr (fun b => ¬ KF b) W W' := ⟨h.more hf (fun _ e => .inl e) h2, hf.mono (fun _ _ e => e.elim)⟩
theorem pq_f {TS TX : Nat → Prop} {L X : List BV} {KX' : Nat → Prop} {TS' : Nat → Prop} {L' : List BV} {M' : List BE} (h : PQ w W g gx M N KF KX) (p1 : FA W g TS L) (p2 : RA W gx TX X) (p4 : X.map BV.e = N) (p5 : ∀ b, TS b → w.heap.size ≤ b ∧ ¬ KF b ∧ ¬ TX b) (p6 : ∀ b, TX b → w.heap.size ≤ b ∧ ¬ KX b)
    (hA : FA W' g TS' L') (hM : L'.map BV.e = M') (hs : Stp TS W W' TS') (hi : Inv M M') (h2 : ∀ b, KX' b → KX b ∨ (W.heap.size ≤ b ∧ b < W'.heap.size)) : PQ w W' g gx M' N KF KX' ∧ Fr (fun b => ¬ KF b) W W' := by
  obtain ⟨-, q1, q2, q3, q4, q5, q6⟩ := h
  have hz := hs.1.size
  have hw := q2.size
  refine ⟨⟨⟨TS', TX, L', X, hA, p2.fr hs.1 (fun b hb e => (p5 b e).2.2 hb), hM, p4, fun b hb => ?_, fun b hb => ⟨(p6 b hb).1, fun e => ?_⟩⟩, fun b hb => ?_, q2.trans' hs.1 (fun b hb e => by have := (p5 b e).1; omega), hi.1, q4, by rw [binI_len hi.2]; exact q5, q6⟩, hs.1.mono (fun b _ e => (p5 b e).2.1)⟩
  · rcases hs.2 b hb with e | e
    · exact p5 b e
    · exact ⟨by omega, fun e2 => by have := q1 b (.inl e2); omega, fun e2 => by have := p2.lt b e2; omega⟩
  · rcases h2 b e with e | e
    · exact (p6 b hb).2 e
    · have := p2.lt b hb; omega
  · rcases hb with hb | hb
    · have := q1 b (.inl hb); omega
    · rcases h2 b hb with e | e
      · have := q1 b (.inr e); omega
      · exact e.2
theorem pq_x {TS TX : Nat → Prop} {L X : List BV} {TX' : Nat → Prop} {X' : List BV} {N' : List BE} (h : PQ w W g gx M N KF KX) (p1 : FA W g TS L) (p2 : RA W gx TX X) (p3 : L.map BV.e = M) (p5 : ∀ b, TS b → w.heap.size ≤ b ∧ ¬ KF b ∧ ¬ TX b) (p6 : ∀ b, TX b → w.heap.size ≤ b ∧ ¬ KX b)
    (hA : RA W' gx TX' X') (hN : X'.map BV.e = N') (hs : Stp TX W W' TX') (hi : Inv N N') : PQ w W' g gx M N' KF KX ∧ Fr (fun b => ¬ KX b) W W' := by
  obtain ⟨-, q1, q2, q3, q4, q5, q6⟩ := h
  have hz := hs.1.size
  have hw := q2.size
  refine ⟨⟨⟨TS, TX', L, X', p1.fr hs.1 (fun b hb e => (p5 b hb).2.2 e), hA, p3, hN, fun b hb => ⟨(p5 b hb).1, (p5 b hb).2.1, fun e => ?_⟩, fun b hb => ?_⟩, fun b hb => Nat.lt_of_lt_of_le (q1 b hb) hz, q2.trans' hs.1 (fun b hb e => by have := (p6 b e).1; omega), q3, hi.1, q5, by rw [binI_len hi.2]; exact q6⟩, hs.1.mono (fun b _ e => (p6 b e).2)⟩
  · rcases hs.2 b e with e | e
    · exact (p5 b hb).2.2 e
    · have := p1.lt b hb; omega
  · rcases hs.2 b hb with e | e
    · exact p6 b e
    · exact ⟨by omega, fun e2 => by have := q1 b (.inr e2); omega⟩
theorem pl_nil (w : World) : Pl w (.slice none 0 0) [] := Sq.nil
theorem pv_lt {v : Value} {l : List PV} (h : Pl W v l) (hl : l ≠ []) : ∀ b, v.ownBlock = some b → b < W.heap.size := fun b hb => h.lt (fun r => by rw [pvSize]; omega) hl b hb
end
end Go.Proofs.YtefjdcghdcbojaaGreat

namespace Go.Proofs.YtefjdcghdcbojaaGreat
open Go.RowKit Go.Maps
theorem pvnil_own (b : Nat) : ¬ (Value.slice none 0 0).ownBlock = some b := by simp [Value.ownBlock]
section
variable {w W : World} {g gx : Nat} {M N : List BE} {KF KX : Nat → Prop}
theorem PQ.fcount (h : PQ w W g gx M N KF KX) (nu : Int) (s : Str) (n : Int) (hs : okS s) (hn : okI n) : Calls Tryz.prog 45 #[.pointer (some ⟨g, 0, none⟩), .int .i64 nu, vS s, .int .i64 n] W fun e W' => e = .returned (.tuple #[.int .i64 (countE M nu s n).1, .int .i64 (countE M nu s n).2.1]) ∧ PQ w W' g gx (countE M nu s n).2.2 N KF KX ∧ Fr (fun b => ¬ KF b) W W' := by
  have hk := h
  obtain ⟨⟨TS, TX, L, X, p1, p2, p3, p4, p5, p6⟩, q1, q2, q3, q4, q5, q6⟩ := h
  have hl := map_len p3
  refine (bCount W g TS L nu s n p1 (by rw [p3]; exact q3) (by omega) hs hn).mono ?_
  rintro e W' ⟨rfl, L', TS', r1, r2, r3⟩
  rw [p3] at r2 ⊢
  exact ⟨rfl, pq_f hk p1 p2 p4 p5 p6 r1 r2 r3 (countE_inv q3) (fun _ e => .inl e)⟩
theorem PQ.rcount (h : PQ w W g gx M N KF KX) (nu : Int) (s : Str) (n : Int) (hs : okS s) (hn : okI n) : Calls Tryz.prog 46 #[.pointer (some ⟨gx, 0, none⟩), .int .i64 nu, vS s, .int .i64 n] W fun e W' => e = .returned (.tuple #[.int .i64 (countE N nu s n).1, .int .i64 (countE N nu s n).2.1]) ∧ PQ w W' g gx M (countE N nu s n).2.2 KF KX ∧ Fr (fun b => ¬ KX b) W W' := by
  have hk := h
  obtain ⟨⟨TS, TX, L, X, p1, p2, p3, p4, p5, p6⟩, q1, q2, q3, q4, q5, q6⟩ := h
  have hl := map_len p4
  refine (rCount W gx TX X nu s n p2 (by rw [p4]; exact q4) (by omega) hs hn).mono ?_
  rintro e W' ⟨rfl, L', TS', r1, r2, r3⟩
  rw [p4] at r2 ⊢
  exact ⟨rfl, pq_x hk p1 p2 p3 p5 p6 r1 r2 r3 (countE_inv q4)⟩
theorem PQ.fmove (h : PQ w W g gx M N KF KX) (s : Str) (fr tt n : Int) (hs : okS s) : Calls Tryz.prog 43 #[.pointer (some ⟨g, 0, none⟩), vS s, .int .i64 fr, .int .i64 tt, .int .i64 n] W fun e W' => e = .returned (.int .i64 (moveE M s fr tt n).1) ∧ PQ w W' g gx (moveE M s fr tt n).2 N KF KX ∧ Fr (fun b => ¬ KF b) W W' := by
  have hk := h
  obtain ⟨⟨TS, TX, L, X, p1, p2, p3, p4, p5, p6⟩, q1, q2, q3, q4, q5, q6⟩ := h
  have hl := map_len p3
  refine (bMove W g TS L s fr tt n p1 (by rw [p3]; exact q3) (by omega) hs).mono ?_
  rintro e W' ⟨rfl, L', TS', r1, r2, r3⟩
  rw [p3] at r2 ⊢
  exact ⟨rfl, pq_f hk p1 p2 p4 p5 p6 r1 r2 r3 (moveE_inv q3) (fun _ e => .inl e)⟩
theorem PQ.rmove (h : PQ w W g gx M N KF KX) (s : Str) (fr tt n : Int) (hs : okS s) (hn : okI n) : Calls Tryz.prog 44 #[.pointer (some ⟨gx, 0, none⟩), vS s, .int .i64 fr, .int .i64 tt, .int .i64 n] W fun e W' => e = .returned (.int .i64 (moveE N s fr tt n).1) ∧ PQ w W' g gx M (moveE N s fr tt n).2 KF KX ∧ Fr (fun b => ¬ KX b) W W' := by
  have hk := h
  obtain ⟨⟨TS, TX, L, X, p1, p2, p3, p4, p5, p6⟩, q1, q2, q3, q4, q5, q6⟩ := h
  have hl := map_len p4
  refine (rMove W gx TX X s fr tt n p2 (by rw [p4]; exact q4) (by omega) (by omega) hs hn).mono ?_
  rintro e W' ⟨rfl, L', TS', r1, r2, r3⟩
  rw [p4] at r2 ⊢
  exact ⟨rfl, pq_x hk p1 p2 p3 p5 p6 r1 r2 r3 (moveE_inv q4)⟩
theorem PQ.fput (h : PQ w W g gx M N KF KX) (s : Str) (n : Int) (hs : okS s) : Calls Tryz.prog 15 #[.pointer (some ⟨g, 0, none⟩), vS s, .int .i64 n] W fun e W' => ∃ v, e = .returned (.tuple #[v, .int .i64 (putA M s n).1]) ∧ Pl W' v (putA M s n).2.1 ∧ PQ w W' g gx (putA M s n).2.2 N KF (fun b => KX b ∨ ((putA M s n).2.1 ≠ [] ∧ v.ownBlock = some b)) ∧ Fr (fun b => ¬ KF b) W W' := by
  have hk := h
  obtain ⟨⟨TS, TX, L, X, p1, p2, p3, p4, p5, p6⟩, q1, q2, q3, q4, q5, q6⟩ := h
  have hl := map_len p3
  have hi := putA_inv (s := s) (n := n) q3
  have ha : putA M s n = putA M s n := rfl
  unfold putA at hi ⊢
  by_cases hm : mayF s n = 0
  · rw [if_pos hm] at hi ⊢
    refine (bPut W g TS L s n p1 (by rw [p3]; exact q3) (by omega) (by omega) hm).mono ?_
    intro e W' hP
    rw [p3] at hP
    rcases hP with ⟨r0, rfl, hf⟩ | ⟨r0, v, L', TS', rfl, hpl, hov, r1, r2, r3, r4⟩
    · rw [if_pos r0] at hi ⊢
      exact ⟨_, rfl, pl_nil _, hk.fsame hf (fun b e => e.elim .inl (fun e => absurd e.2 (pvnil_own b)))⟩
    · rw [if_neg (by omega)] at hi ⊢
      exact ⟨v, rfl, hpl, pq_f hk p1 p2 p4 p5 p6 r1 r2 ⟨r3.mono (fun b _ e => by have e : b = g := e; rw [e]; exact p1.own), r4⟩ hi (fun b e => e.elim .inl (fun e => .inr ⟨hov b e.2, pv_lt hpl e.1 b e.2⟩))⟩
  · rw [if_neg hm] at hi ⊢
    refine (bPut_no W g TS L s n p1 (by omega) hs hm).mono ?_
    rintro e W' ⟨rfl, hf⟩
    have e60 : mayF s n = 60 := by unfold mayF at hm ⊢; split <;> simp_all
    rw [e60]
    exact ⟨_, rfl, pl_nil _, hk.fsame hf (fun b e => e.elim .inl (fun e => absurd e.2 (pvnil_own b)))⟩
theorem PQ.rput (h : PQ w W g gx M N KF KX) (s : Str) (n : Int) (hs : okS s) : Calls Tryz.prog 40 #[.pointer (some ⟨gx, 0, none⟩), vS s, .int .i64 n] W fun e W' => ∃ v, e = .returned (.tuple #[v, .int .i64 (putA N s n).1]) ∧ Pl W' v (putA N s n).2.1 ∧ PQ w W' g gx M (putA N s n).2.2 KF KX ∧ Fr (fun b => ¬ KX b) W W' := by
  have hk := h
  obtain ⟨⟨TS, TX, L, X, p1, p2, p3, p4, p5, p6⟩, q1, q2, q3, q4, q5, q6⟩ := h
  have hl := map_len p4
  have hi := putA_inv (s := s) (n := n) q4
  unfold putA at hi ⊢
  by_cases hm : mayF s n = 0
  · rw [if_pos hm] at hi ⊢
    refine (rPutM W gx TX X s n p2 (by rw [p4]; exact q4) (by omega) (by omega) hm).mono ?_
    intro e W' hP
    rw [p4] at hP
    rcases hP with ⟨r0, rfl, hf⟩ | ⟨r0, v, L', TS', rfl, hpl, r1, r2, r3⟩
    · rw [if_pos r0] at hi ⊢
      exact ⟨_, rfl, pl_nil _, hk.keep hf, hf.mono (fun _ _ e => e.elim)⟩
    · rw [if_neg (by omega)] at hi ⊢
      exact ⟨v, rfl, hpl, pq_x hk p1 p2 p3 p5 p6 r1 r2 r3 hi⟩
  · rw [if_neg hm] at hi ⊢
    refine (rPutM_no W gx s n hs hm).mono ?_
    rintro e W' ⟨rfl, hf⟩
    exact ⟨_, rfl, pl_nil _, hk.keep hf, hf.mono (fun _ _ e => e.elim)⟩
theorem PQ.ftake (h : PQ w W g gx M N KF KX) (s : Str) (n : Int) (hs : okS s) : Calls Tryz.prog 16 #[.pointer (some ⟨g, 0, none⟩), vS s, .int .i64 n] W fun e W' => ∃ v, e = .returned (.tuple #[v, .int .i64 (takeA M s n).1]) ∧ Pl W' v (takeA M s n).2.1 ∧ PQ w W' g gx (takeA M s n).2.2 N KF (fun b => KX b ∨ ((takeA M s n).2.1 ≠ [] ∧ v.ownBlock = some b)) ∧ Fr (fun b => ¬ KF b) W W' := by
  have hk := h
  obtain ⟨⟨TS, TX, L, X, p1, p2, p3, p4, p5, p6⟩, q1, q2, q3, q4, q5, q6⟩ := h
  have hl := map_len p3
  have hi := takeA_inv (s := s) (n := n) q3
  have ha : takeA M s n = takeA M s n := rfl
  unfold takeA at hi ⊢
  by_cases hm : mayF s n = 0
  · rw [if_pos hm] at hi ⊢
    refine (bTake W g TS L s n p1 (by rw [p3]; exact q3) (by omega) (by omega) hm).mono ?_
    intro e W' hP
    rw [p3] at hP
    rcases hP with ⟨r0, rfl, hf⟩ | ⟨r0, v, L', TS', rfl, hpl, hov, r1, r2, r3, r4⟩
    · rw [if_pos r0] at hi ⊢
      exact ⟨_, rfl, pl_nil _, hk.fsame hf (fun b e => e.elim .inl (fun e => absurd e.2 (pvnil_own b)))⟩
    · rw [if_neg (by omega)] at hi ⊢
      exact ⟨v, rfl, hpl, pq_f hk p1 p2 p4 p5 p6 r1 r2 ⟨r3.mono (fun b _ e => by have e : b = g := e; rw [e]; exact p1.own), r4⟩ hi (fun b e => e.elim .inl (fun e => .inr ⟨hov b e.2, pv_lt hpl e.1 b e.2⟩))⟩
  · rw [if_neg hm] at hi ⊢
    refine (bTake_no W g TS L s n p1 (by omega) hs hm).mono ?_
    rintro e W' ⟨rfl, hf⟩
    have e60 : mayF s n = 60 := by unfold mayF at hm ⊢; split <;> simp_all
    rw [e60]
    exact ⟨_, rfl, pl_nil _, hk.fsame hf (fun b e => e.elim .inl (fun e => absurd e.2 (pvnil_own b)))⟩
theorem PQ.rtake (h : PQ w W g gx M N KF KX) (s : Str) (n : Int) (hs : okS s) : Calls Tryz.prog 42 #[.pointer (some ⟨gx, 0, none⟩), vS s, .int .i64 n] W fun e W' => ∃ v, e = .returned (.tuple #[v, .int .i64 (takeA N s n).1]) ∧ Pl W' v (takeA N s n).2.1 ∧ PQ w W' g gx M (takeA N s n).2.2 KF KX ∧ Fr (fun b => ¬ KX b) W W' := by
  have hk := h
  obtain ⟨⟨TS, TX, L, X, p1, p2, p3, p4, p5, p6⟩, q1, q2, q3, q4, q5, q6⟩ := h
  have hl := map_len p4
  have hi := takeA_inv (s := s) (n := n) q4
  unfold takeA at hi ⊢
  by_cases hm : mayF s n = 0
  · rw [if_pos hm] at hi ⊢
    refine (rTake W gx TX X s n p2 (by rw [p4]; exact q4) (by omega) (by omega) hm).mono ?_
    intro e W' hP
    rw [p4] at hP
    rcases hP with ⟨r0, rfl, hf⟩ | ⟨r0, v, L', TS', rfl, hpl, r1, r2, r3⟩
    · rw [if_pos r0] at hi ⊢
      exact ⟨_, rfl, pl_nil _, hk.keep hf, hf.mono (fun _ _ e => e.elim)⟩
    · rw [if_neg (by omega)] at hi ⊢
      exact ⟨v, rfl, hpl, pq_x hk p1 p2 p3 p5 p6 r1 r2 r3 hi⟩
  · rw [if_neg hm] at hi ⊢
    refine (rTake_no W gx s n hs hm).mono ?_
    rintro e W' ⟨rfl, hf⟩
    exact ⟨_, rfl, pl_nil _, hk.keep hf, hf.mono (fun _ _ e => e.elim)⟩
theorem PQ.fof (h : PQ w W g gx M N KF KX) (s : Str) : Calls Tryz.prog 14 #[.pointer (some ⟨g, 0, none⟩), vS s] W fun e W' => e = .returned (.int .i64 (sumE M s)) ∧ Fr (fun _ => False) W W' := by
  obtain ⟨⟨TS, TX, L, X, p1, p2, p3, p4, p5, p6⟩, q1, q2, q3, q4, q5, q6⟩ := h
  have hl := map_len p3
  have := bOfAll W g L s p1.fl (by omega)
  rw [sumE_e, p3] at this
  exact this
theorem PQ.fpack (h : PQ w W g gx M N KF KX) : Calls Tryz.prog 10 #[.pointer (some ⟨g, 0, none⟩)] W fun e W' => ∃ v, e = .returned v ∧ Bs W' v (packE M) ∧ (∀ b, v.ownBlock = some b → W.heap.size ≤ b) ∧ Fr (fun _ => False) W W' := by
  obtain ⟨⟨TS, TX, L, X, p1, p2, p3, p4, p5, p6⟩, q1, q2, q3, q4, q5, q6⟩ := h
  have hl := map_len p3
  refine (bPack W g L p1.fl (by omega) (by omega) (by rw [p3]; exact q3)).mono ?_
  rintro e W' ⟨v, rfl, ho, hf⟩
  rw [p3] at ho
  have := Bs.own ho (packE_byt (by omega) q3)
  exact ⟨v, rfl, this.1, fun b hb => this.2 b hb, hf⟩
end
end Go.Proofs.YtefjdcghdcbojaaGreat

namespace Go.Proofs.YtefjdcghdcbojaaGreat
open Go.ChangeShapes Go.WideShapes Go.RowKit Go.Maps
section
variable {H : Type} {enc : TypeId × Value → H} {w : World} {base : Nat} {spare : Nat → Bool} {held : Bool}
theorem leaf_str {P : Program} {t : TypeId} {n : Nat} {v : Value} {y : DataW H × List MemPlace} (ht : P.underlying t = some .string) (h : DataW.trod enc P w base spare held n t [v] = some y) : ∃ s : Str, v = vS s ∧ okS s := by
  obtain ⟨s, e, _, hs⟩ := DataW.trod_string ht h
  injection e with e _
  refine ⟨s.data.toList, e, ?_⟩
  unfold okS
  exact hs
end
end Go.Proofs.YtefjdcghdcbojaaGreat

namespace Go.Proofs.YtefjdcghdcbojaaGreat
open Go.ChangeShapes Go.WideShapes Go.RowKit Go.Maps
/-- An Op. -/
structure BOp where
  kd : Int
  g : Str
  n : Int
  b : Int
  t : Int
def bopC (o : BOp) : Array Value := #[.int .i64 o.kd, vS o.g, .int .i64 o.n, .int .i64 o.b, .int .i64 o.t]
def okBop (_ : World) (o : BOp) : Prop := okI o.kd ∧ okS o.g ∧ okI o.n ∧ okI o.b ∧ okI o.t
section
variable {H : Type} {enc : TypeId × Value → H} {w : World} {base : Nat} {spare : Nat → Bool} {held : Bool}
set_option maxRecDepth 100000 in
theorem open_bop (cell : Nat → Option Value) (h : ∀ (j : Nat) (t : TypeId), (leaves Tryz.prog 2 41)[j]? = some t → ∃ (u : Value) (m : Nat) (y : DataW H × List MemPlace), cell j = some u ∧ DataW.trod enc Tryz.prog w base spare held m t [u] = some y) :
    ∃ r : BOp, okBop w r ∧ ∀ (j : Nat) (u : Value), (bopC r)[j]? = some u → cell j = some u := by
  obtain ⟨u0, m0, y0, c0, t0⟩ := h 0 3 (by kernel_rfl)
  obtain ⟨u1, m1, y1, c1, t1⟩ := h 1 9 (by kernel_rfl)
  obtain ⟨u2, m2, y2, c2, t2⟩ := h 2 3 (by kernel_rfl)
  obtain ⟨u3, m3, y3, c3, t3⟩ := h 3 3 (by kernel_rfl)
  obtain ⟨u4, m4, y4, c4, t4⟩ := h 4 3 (by kernel_rfl)
  obtain ⟨x0, rfl, k0⟩ := leaf_i64 Tryz.underlying3 t0
  obtain ⟨s, rfl, k1⟩ := leaf_str Tryz.underlying9 t1
  obtain ⟨x2, rfl, k2⟩ := leaf_i64 Tryz.underlying3 t2
  obtain ⟨x3, rfl, k3⟩ := leaf_i64 Tryz.underlying3 t3
  obtain ⟨x4, rfl, k4⟩ := leaf_i64 Tryz.underlying3 t4
  refine ⟨⟨x0, s, x2, x3, x4⟩, ⟨k0, k1, k2, k3, k4⟩, fun j u hu => ?_⟩
  match j, hu with
  | 0, hu => cases hu; exact c0
  | 1, hu => cases hu; exact c1
  | 2, hu => cases hu; exact c2
  | 3, hu => cases hu; exact c3
  | 4, hu => cases hu; exact c4
  | j + 5, hu => simp [bopC] at hu
set_option maxRecDepth 100000 in
theorem open_bi (cell : Nat → Option Value) (h : ∀ (j : Nat) (t : TypeId), (leaves Tryz.prog 2 56)[j]? = some t → ∃ (u : Value) (m : Nat) (y : DataW H × List MemPlace), cell j = some u ∧ DataW.trod enc Tryz.prog w base spare held m t [u] = some y) :
    ∃ r : BI, okBi w r ∧ ∀ (j : Nat) (u : Value), (biC r)[j]? = some u → cell j = some u := by
  obtain ⟨u0, m0, y0, c0, t0⟩ := h 0 3 (by kernel_rfl)
  obtain ⟨u1, m1, y1, c1, t1⟩ := h 1 3 (by kernel_rfl)
  obtain ⟨u2, m2, y2, c2, t2⟩ := h 2 3 (by kernel_rfl)
  obtain ⟨x0, rfl, k0⟩ := leaf_i64 Tryz.underlying3 t0
  obtain ⟨x1, rfl, k1⟩ := leaf_i64 Tryz.underlying3 t1
  obtain ⟨x2, rfl, k2⟩ := leaf_i64 Tryz.underlying3 t2
  refine ⟨⟨x0, x1, x2⟩, ⟨k0, k1, k2⟩, fun j u hu => ?_⟩
  match j, hu with
  | 0, hu => cases hu; exact c0
  | 1, hu => cases hu; exact c1
  | 2, hu => cases hu; exact c2
  | j + 3, hu => simp [biC] at hu
set_option maxRecDepth 100000 in
theorem open_bops {r : Reach} {b0 : Nat} {v : Value} {d : DataW H} {p : List MemPlace} (hv : Value.okWide Tryz.prog w r b0 35 v) (h : DataW.Trod enc Tryz.prog w base spare held 35 v d p) : ∃ L, Sq 5 bopC okBop w v L :=
  open_sq (d := 2) Tryz.underlying35 (by kernel_rfl) (by kernel_rfl) (by kernel_rfl) open_bop hv h
set_option maxRecDepth 100000 in
theorem open_bis {r : Reach} {b0 : Nat} {v : Value} {d : DataW H} {p : List MemPlace} (hv : Value.okWide Tryz.prog w r b0 34 v) (h : DataW.Trod enc Tryz.prog w base spare held 34 v d p) : ∃ L, Sbi w v L :=
  open_sq (d := 2) Tryz.underlying34 (by kernel_rfl) (by kernel_rfl) (by kernel_rfl) open_bi hv h
end
end Go.Proofs.YtefjdcghdcbojaaGreat

namespace Go.Proofs.YtefjdcghdcbojaaGreat
open Go.RowKit Go.Maps
theorem pv_ext {p q : PV} (h1 : p.b = q.b) (h2 : p.g = q.g) (h3 : p.n = q.n) : p = q := by
  obtain ⟨a, b, c⟩ := p
  obtain ⟨d, e, f⟩ := q
  dsimp only at h1 h2 h3
  rw [h1, h2, h3]
set_option maxRecDepth 100000 in
set_option maxHeartbeats 8000000 in
theorem lSame (w : World) (v1 v2 : Value) (A B : List PV) (h1 : Pl w v1 A) (h2 : Pl w v2 B) : Calls Tryz.prog 41 #[v1, v2] w fun e w' => ∃ r, e = .returned (.bool r) ∧ (r = true ↔ A = B) ∧ Fr (fun _ => False) w w' := by
  obtain ⟨a1, c1, rfl⟩ := h1.sl
  obtain ⟨a2, c2, rfl⟩ := h2.sl
  have H1 := Lib.hid h1; have H2 := Lib.hid h2
  have hl1 := h1.len; have hl2 := h2.len
  obtain ⟨N, hN⟩ : ∃ N, A.length = N := ⟨_, rfl⟩
  obtain ⟨M, hM⟩ : ∃ M, B.length = M := ⟨_, rfl⟩
  have HN := Lib.hid hN; have HM := Lib.hid hM
  rw [hN] at hl1 ⊢; rw [hM] at hl2 ⊢
  obtain ⟨PP, hPP⟩ : ∃ PP : Ending → World → Prop, (fun e w' => ∃ r, e = .returned (.bool r) ∧ (r = true ↔ A = B) ∧ Fr (fun _ => False) w w') = PP := ⟨_, rfl⟩
  have HPP := Lib.hid hPP
  rw [hPP]
  clear h1 h2 hN hM hPP
  by_cases e : N = M
  · subst e
    go_enter Tryz.func41, Tryz.ntmps41
    go_wp2_with fail
    go_loopw [5] (fun vi wr => ∃ k : Nat, k ≤ N ∧ vi = .int .i64 k ∧ (∀ q, q < k → A[q]? = B[q]?) ∧ Fr (fun _ => False) w wr) (fun vi _ => N - (intOf vi).toNat)
    case atStart => exact ⟨0, Nat.zero_le _, rfl, fun q hq => by omega, Fr.refl _ _⟩
    case round =>
      obtain ⟨k, hk, rfl, hq, hfr⟩ := hrel
      have HQ := Lib.hid hq; have HFR := Lib.hid hfr
      by_cases hlt : k < N
      · obtain ⟨p, hp⟩ : ∃ p, A[k]? = some p := ⟨A[k]'(by rw [HN.out]; exact hlt), List.getElem?_eq_getElem _⟩
        obtain ⟨q, hq'⟩ : ∃ q, B[k]? = some q := ⟨B[k]'(by rw [HM.out]; exact hlt), List.getElem?_eq_getElem _⟩
        obtain ⟨ad, rfl, -, z0, zs⟩ := (H1.out.fr0 okPvKeeps hfr).at_ hp
        obtain ⟨bd, rfl, -, y0, ys⟩ := (H2.out.fr0 okPvKeeps hfr).at_ hq'
        have x0 := z0 (.int .i64 p.b) rfl
        have x1 := zs 0 (vS p.g) rfl
        have x2 := zs 1 (.int .i64 p.n) rfl
        have u0 := y0 (.int .i64 q.b) rfl
        have u1 := ys 0 (vS q.g) rfl
        have u2 := ys 1 (.int .i64 q.n) rfl
        dsimp only [Nat.zero_add, Nat.reduceAdd] at x0 x1 x2 u0 u1 u2
        have hkI : (k : Int) < N := by omega
        have hne := fun W => neq_place W p q
        obtain ⟨b, hb⟩ : ∃ b, (decide (p.b = q.b) && (decide (p.g = q.g) && decide (p.n = q.n))) = b := ⟨_, rfl⟩
        rw [hb] at hne
        have HP := Lib.hid hp; have HQ' := Lib.hid hq'
        cases b with
        | true =>
          have hnx : Hid (∀ j, j < k + 1 → A[j]? = B[j]?) := Lib.hid (fun j hj => by
            by_cases e2 : j = k
            · subst e2
              simp only [Bool.and_eq_true, decide_eq_true_eq] at hb
              rw [HP.out, HQ'.out, pv_ext hb.1 hb.2.1 hb.2.2]
            · exact HQ.out j (by omega))
          clear hp hq' z0 zs y0 ys hb hq hfr
          have x0 := FrW.cell x0; have x1 := FrW.cell x1; have x2 := FrW.cell x2; have u0 := FrW.cell u0; have u1 := FrW.cell u1; have u2 := FrW.cell u2
          go_wp2_with fail
          refine wp_region_fr (by kernel_rfl) (by kernel_rfl) ?_
          repeat (go_big_quiet_step (fail))
          refine wpQuiet_nil ?_
          rintro V ⟨⟨_, hV⟩, rfl⟩
          go_wp2_with fail
          go_roundw
          case rel => exact ⟨k + 1, by omega, by go_num, hnx.out, HFR.out.trans hV⟩
          case measure => simp [intOf]; omega
        | false =>
          have hno : Hid (¬ A = B) := Lib.hid (fun e2 => by
            have e3 := HP.out
            rw [e2, HQ'.out] at e3
            injection e3 with e3
            rw [e3] at hb
            simp at hb)
          clear hp hq' z0 zs y0 ys hb hq hfr
          have x0 := FrW.cell x0; have x1 := FrW.cell x1; have x2 := FrW.cell x2; have u0 := FrW.cell u0; have u1 := FrW.cell u1; have u2 := FrW.cell u2
          go_wp2_with fail
          refine wp_region_fr (by kernel_rfl) (by kernel_rfl) ?_
          repeat (go_big_quiet_step (fail))
          refine wpQuiet_nil ?_
          rintro V ⟨⟨_, hV⟩, rfl⟩
          go_wp2_with fail
          rw [← HPP.out]
          exact ⟨false, rfl, by simpa using hno.out, HFR.out.trans hV⟩
      · obtain rfl : k = N := by omega
        have hkI : ¬ (k : Int) < k := by omega
        have hyes : Hid (A = B) := Lib.hid (List.ext_getElem? (fun j => by
          by_cases hj : j < k
          · exact hq j hj
          · rw [List.getElem?_eq_none (by rw [HN.out]; omega), List.getElem?_eq_none (by rw [HM.out]; omega)]))
        clear hq hfr
        go_wp2_with fail
        rw [← HPP.out]
        exact ⟨true, rfl, by simpa using hyes.out, HFR.out⟩
  · have b1 : ((N : Int) != (M : Int)) = true := by simp; omega
    have hno : Hid (¬ A = B) := Lib.hid (fun e2 => e (by rw [← HN.out, ← HM.out, e2]))
    clear e
    go_enter Tryz.func41, Tryz.ntmps41
    go_wp2_with fail
    rw [← HPP.out]
    exact ⟨false, rfl, by simpa using hno.out, Fr.refl _ _⟩
end Go.Proofs.YtefjdcghdcbojaaGreat

namespace Go.Proofs.YtefjdcghdcbojaaGreat
open Go Go.RowKit
def wpEfS (S : Nat → Prop) (P : Program) (ops : Array Oper) (Q : Act → World → Prop) : List (Oper × Bool) → Act → World → Prop
  | [], a, w => ∀ w1, Fr (fun _ => False) w w1 → Q a w1
  | (o, cl) :: es, a, w => ∀ w1, Fr (fun _ => False) w w1 → wpList P ops (fun ex a2 w2 => ex = Exit.normal ∧ a2.defers = a.defers ∧ (cl = true → Fr S w1 w2) ∧ wpEfS S P ops Q es a2 w2) [o] a w1
section
variable {S : Nat → Prop} {P : Program} {l : List Oper} {E : Efs} {pu : List Nat} {w0 : World} {aF : Act} {Q : Exit → Act → World → Prop}
theorem all_putS {ops : Array Oper} {fuel : Nat} {listed : Array Bool} {a' : Act} {i : Nat} {o : Oper} (ho : ops[i]? = some o) (hr : i ∈ Region.ready .any ops listed)
    (hw : ∀ (j : Nat) (x : Oper) (t : Tmp), ops[j]? = some x → x.dst = some t → o.dst = some t → j = i) (hil : i < listed.size)
    (hH : ∀ wX, Fr S w0 wX → wpAnyQ P .any ops (fun w' => ∃ Y : FrW wX, w' = Y.val) (fun x => x = aF) (fuel + 1) listed a') (wX : World) (hX : Fr S w0 wX) :
    ∃ v, YieldsIn P ops (fun w' => ∃ Y : FrW wX, w' = Y.val) o v a' ∧ ∀ wY, Fr S w0 wY → wpAnyQ P .any ops (fun w' => ∃ Y : FrW wY, w' = Y.val) (fun x => x = aF) fuel (listed.setIfInBounds i true) (a'.put o.dst v) := by
  have hset : (listed.setIfInBounds i true).getD i true = true := getD_set_same hil
  have fin : ∀ wY, Fr S w0 wY → ∃ v, YieldsIn P ops (fun w' => ∃ Y : FrW wY, w' = Y.val) o v a' ∧ wpAnyQ P .any ops (fun w' => ∃ Y : FrW wY, w' = Y.val) (fun x => x = aF) fuel (listed.setIfInBounds i true) (a'.put o.dst v) ∧ ∀ t, o.dst = some t → (a'.put o.dst v).tmps[t]? = aF.tmps[t]? := fun wY hY => by
    obtain ⟨v, h1, h2⟩ := yieldsIn_of_qOp ho ((hH wY hY).2 i hr)
    refine ⟨v, h1, h2, fun t ht => fin_at fuel _ _ h2 t (fun j x hj hu hx => ?_)⟩
    have := hw j x t hj hx ht
    rw [this, hset] at hu
    cases hu
  obtain ⟨v, h1, h2, h3⟩ := fin wX hX
  refine ⟨v, h1, fun wY hY => ?_⟩
  obtain ⟨u, _, g2, g3⟩ := fin wY hY
  have e : a'.put o.dst v = a'.put o.dst u := by
    refine act_ext (by rw [put_dfr, put_dfr]) (fun t => ?_)
    by_cases ht : o.dst = some t
    · rw [h3 t ht, g3 t ht]
    · rw [put_out ht, put_out ht]
  rw [e]
  exact g2
structure EInvS (S : Nat → Prop) (P : Program) (l : List Oper) (E : Efs) (pu : List Nat) (w0 : World) (aF : Act) (Q : Act → World → Prop) (listed : Array Bool) (k : Nat) (a' a af : Act) (w : World) : Prop where
  lst : ∀ (p e : Nat), (efIdx E)[p]? = some e → (listed.getD e true = true ↔ p < k)
  kle : k ≤ E.length
  df : a.defers = a'.defers ∧ af.defers = aF.defers
  sz : a.tmps.size = a'.tmps.size ∧ af.tmps.size = aF.tmps.size ∧ a.tmps.size = af.tmps.size
  don : ∀ (p e t : Nat) (o : Oper), p < k → (efIdx E)[p]? = some e → l[e]? = some o → o.dst = some t → a.tmps[t]? = af.tmps[t]?
  out : ∀ t : Nat, (∀ (p e : Nat) (o : Oper), p < k → (efIdx E)[p]? = some e → l[e]? = some o → o.dst ≠ some t) → a.tmps[t]? = a'.tmps[t]? ∧ af.tmps[t]? = aF.tmps[t]?
  eff : ∃ wk, Fr (fun _ => False) wk w ∧ wpEfS S P l.toArray Q (efOps l (E.drop k)) af wk
  cls : (Fr S w0 w) ∨ (∀ i, i < l.length → i ∉ efIdx E → listed.getD i true = false → i ∈ pu)
  lsz : listed.size = l.length
  cld : ∀ (j : Nat) (x : Oper), l[j]? = some x → listed.getD j true = true → ∀ e ∈ x.after, Region.binds .any e = true → listed.getD e.on false = true
theorem eff_simS {dp : Nat} (ok : EfOk l E pu dp)
    (hpu : ∀ i ∈ pu, ∀ o, l[i]? = some o → ∃ v, ∀ w, (execOp aF.eval o).run P w = .ok (.value v) w) :
    ∀ (fuel : Nat) (listed : Array Bool) (k : Nat) (a' a af : Act) (w : World), EInvS S P l E pu w0 aF (fun x y => Q .normal x y) listed k a' a af w →
      (∀ wX, Fr S w0 wX → wpAnyQ P .any (boxedF (efIdx E) 0 l).toArray (fun w' => ∃ Y : FrW wX, w' = Y.val) (fun x => x = aF) fuel listed a') → wpAny P .any l.toArray Q fuel listed a w := by
  have hend : ∀ (fuel : Nat) (listed : Array Bool) (k : Nat) (a' a af : Act) (w : World), EInvS S P l E pu w0 aF (fun x y => Q .normal x y) listed k a' a af w →
      (∀ wX, Fr S w0 wX → wpAnyQ P .any (boxedF (efIdx E) 0 l).toArray (fun w' => ∃ Y : FrW wX, w' = Y.val) (fun x => x = aF) fuel listed a') → Region.ready .any l.toArray listed = [] → Q .normal a w := fun fuel listed k a' a af w inv hH hr => by
    have hall : ∀ j, j < l.length → listed.getD j true = true := fun j hj => by
      cases e : listed.getD j true with
      | true => rfl
      | false => exact absurd hr (ready_some ok.acy (by rw [inv.lsz]; simp) j j (by simpa using hj) (Nat.le_refl _) e)
    have ea : a' = aF := wpAnyQ_end (P := P) (C := fun w' => ∃ Y : FrW w0, w' = Y.val) (Q' := fun x => x = aF) (ops := (boxedF (efIdx E) 0 l).toArray) (by rw [bxd_ready]; exact hr) fuel (hH w0 (Fr.refl _ _))
    have hk : k = E.length := by
      rcases Nat.lt_or_ge k E.length with h | h
      · exfalso
        obtain ⟨o, ho, _⟩ := ok.eff E[k] (List.getElem_mem h)
        have h1 := hall E[k].1 (List.getElem?_eq_some_iff.1 ho).1
        have := (inv.lst k E[k].1 (efIdx_get (List.getElem?_eq_getElem h))).1 h1
        omega
      · have := inv.kle; omega
    obtain ⟨wk, hf, he⟩ := inv.eff
    rw [hk, List.drop_length] at he
    have h2 := he w hf
    have e : a = af := by
      refine act_ext (by rw [inv.df.1, inv.df.2, ea]) (fun t => ?_)
      by_cases ht : ∀ (p e : Nat) (o : Oper), p < k → (efIdx E)[p]? = some e → l[e]? = some o → o.dst ≠ some t
      · rw [(inv.out t ht).1, (inv.out t ht).2, ea]
      · have : ∃ (p e : Nat) (o : Oper), p < k ∧ (efIdx E)[p]? = some e ∧ l[e]? = some o ∧ o.dst = some t := Classical.byContradiction fun hn => ht fun p e o h1 h2 h3 h4 => hn ⟨p, e, o, h1, h2, h3, h4⟩
        obtain ⟨p, e, o, h1, h2, h3, h4⟩ := this
        exact inv.don p e t o h1 h2 h3 h4
    rw [e]
    exact h2
  intro fuel
  induction fuel with
  | zero =>
    intro listed k a' a af w inv hH
    have hr : Region.ready .any l.toArray listed = [] := by have := (hH w0 (Fr.refl _ _)).1; rwa [bxd_ready] at this
    exact ⟨hr, hend 0 listed k a' a af w inv hH hr⟩
  | succ fuel ih =>
    intro listed k a' a af w inv hH
    refine ⟨hend _ listed k a' a af w inv hH, fun i hi => ?_⟩
    obtain ⟨hun, o, ho, hdeps⟩ := mem_ready.1 hi
    have hol : l[i]? = some o := by simpa using ho
    have hil : i < l.length := (List.getElem?_eq_some_iff.1 hol).1
    have hlsz := inv.lsz
    have hi' : i ∈ Region.ready .any (boxedF (efIdx E) 0 l).toArray listed := by rw [bxd_ready]; exact hi
    have back : ∀ (j : Nat) (x : Oper) (t : Tmp), (boxedF (efIdx E) 0 l).toArray[j]? = some x → x.dst = some t → ∃ y, l[j]? = some y ∧ y.dst = some t := fun j x t hj hx => by
      rw [bxd_get] at hj
      cases hy : l.toArray[j]? with
      | none => rw [hy] at hj; cases hj
      | some y =>
        rw [hy] at hj
        refine ⟨y, by simpa using hy, ?_⟩
        simp only [Option.map_some, Option.some.injEq] at hj
        rw [← hj] at hx
        by_cases hc : (efIdx E).contains j = true
        · rw [if_pos hc] at hx; exact hx
        · rw [if_neg hc] at hx; exact hx
    have uniq : ∀ (j : Nat) (x : Oper) (t : Tmp), (boxedF (efIdx E) 0 l).toArray[j]? = some x → x.dst = some t → o.dst = some t → j = i := fun j x t hj hx ht => by
      obtain ⟨y, hy, hyd⟩ := back j x t hj hx
      exact ok.un j i y o t hy hol hyd ht
    -- a slot all of whose writers are listed is as at the end
    have fin : ∀ t : Nat, (∀ (j : Nat) (y : Oper), l[j]? = some y → y.dst = some t → listed.getD j true = true) → a'.tmps[t]? = aF.tmps[t]? := fun t ht =>
      fin_at (fuel + 1) listed a' (hH w0 (Fr.refl _ _)) t (fun j y hj hu hy => by
        obtain ⟨z, hz, hzd⟩ := back j y t hj hy
        rw [ht j z hz hzd] at hu
        cases hu)
    by_cases hE : i ∈ efIdx E
    · -- the chain's next
      obtain ⟨p, hp⟩ := List.getElem?_of_mem hE
      have hpk : ¬ p < k := fun h => by rw [(inv.lst p i hp).2 h] at hun; cases hun
      have hpk2 : p = k := by
        rcases Nat.lt_or_ge k p with h | h
        · exfalso
          obtain ⟨q, rfl⟩ : ∃ q, p = q + 1 := ⟨p - 1, by omega⟩
          have hq := (List.getElem?_eq_some_iff.1 hp).1
          have hqe : (efIdx E)[q]? = some (efIdx E)[q] := List.getElem?_eq_getElem (by omega)
          obtain ⟨o', ho', hw⟩ := ok.chn q _ i hqe hp
          rw [hol] at ho'
          obtain rfl : o = o' := by injection ho'
          obtain ⟨b, hb⟩ := efIdx_some hqe
          obtain ⟨x, hx, _⟩ := ok.eff _ (List.mem_of_getElem? hb)
          have h1 := listed_dep hdeps (by rw [hlsz]; exact (List.getElem?_eq_some_iff.1 hx).1) hw
          have := (inv.lst q _ hqe).1 h1
          omega
        · omega
      obtain rfl : k = p := hpk2.symm
      obtain ⟨cl, hcl⟩ := efIdx_some hp
      obtain ⟨o', ho', hog, hos, hlate⟩ := ok.eff _ (List.mem_of_getElem? hcl)
      dsimp only at ho' hlate
      rw [hol] at ho'
      obtain rfl : o = o' := by injection ho'
      have hob : (boxedF (efIdx E) 0 l).toArray[i]? = some (idleU o) := by rw [bxd_get, ho]; simp [hE]
      obtain ⟨u, _, hK⟩ := all_putS (w0 := w0) (fuel := fuel) (a' := a') hob hi' (fun j x t hj hx ht => uniq j x t hj hx ht) (by omega) hH w0 (Fr.refl _ _)
      have hK' : ∀ wY, Fr S w0 wY → wpAnyQ P .any (boxedF (efIdx E) 0 l).toArray (fun w' => ∃ Y : FrW wY, w' = Y.val) (fun x => x = aF) fuel (listed.setIfInBounds i true) (a'.put o.dst u) := hK
      have hlk : ∀ t ∈ o.looksAt l.toArray, a.tmps[t]? = af.tmps[t]? := fun t ht => by
        have hw : ∀ (j : Nat) (y : Oper), l[j]? = some y → y.dst = some t → listed.getD j true = true := fun j y hy hyd => listed_dep hdeps (by rw [hlsz]; exact (List.getElem?_eq_some_iff.1 hy).1) (sees_spec hos ht hy hyd)
        by_cases hex : ∀ (p e : Nat) (x : Oper), p < k → (efIdx E)[p]? = some e → l[e]? = some x → x.dst ≠ some t
        · rw [(inv.out t hex).1, (inv.out t hex).2]
          exact fin t hw
        · have : ∃ (p e : Nat) (x : Oper), p < k ∧ (efIdx E)[p]? = some e ∧ l[e]? = some x ∧ x.dst = some t := Classical.byContradiction fun hn => hex fun p e x h1 h2 h3 h4 => hn ⟨p, e, x, h1, h2, h3, h4⟩
          obtain ⟨p, e, x, h1, h2, h3, h4⟩ := this
          exact inv.don p e t x h1 h2 h3 h4
      have hsel := Region.noSelect_spec ok.sel
      obtain ⟨c1, _⟩ := look_congr (ops := l.toArray) (o := o) (a := a) (a' := af) (fun cs b => hsel i o cs b ho) hlk
      obtain ⟨wk, hf, he⟩ := inv.eff
      rw [efOps_drop hcl hol] at he
      have he1 := he w hf
      have hwp : o.wp P af w (fun a2 w2 => Exit.normal = Exit.normal ∧ a2.defers = af.defers ∧ (cl = true → Fr S w w2) ∧ wpEfS S P l.toArray (fun x y => Q .normal x y) (efOps l (E.drop (k + 1))) a2 w2) (fun ex a2 w2 => ex = Exit.normal ∧ a2.defers = af.defers ∧ (cl = true → Fr S w w2) ∧ wpEfS S P l.toArray (fun x y => Q .normal x y) (efOps l (E.drop (k + 1))) a2 w2) := by
        have h1 : (if Region.wanted o (yielded l.toArray af.tmps) then _ else _) := he1
        simp only [Region.wanted, hog, if_true] at h1
        rcases h1 with h1 | ⟨_, x, y, h2⟩
        · exact h1
        · cases h2.1
      have hset : ∀ j, (listed.setIfInBounds i true).getD j true = true ↔ (j = i ∨ listed.getD j true = true) := fun j => by
        by_cases e : i = j
        · subst e; simp [getD_set_same (show i < listed.size by omega)]
        · rw [getD_set_ne true e]
          exact ⟨.inr, fun h => h.elim (fun e2 => absurd e2.symm e) id⟩
      unfold wpOp
      rw [ho]
      simp only [Region.wanted, hog, if_true]
      left
      refine eff_conv c1 (fun v w2 h => ?_) (fun x w2 h => h.2.1) (fun ex x w2 h => h.1) hwp
      obtain ⟨_, hd2, hcl2, hrest⟩ := h
      refine ih _ (k + 1) (a'.put o.dst u) _ (af.put o.dst v) w2 ⟨fun p e hpe => ?_, ?_, ⟨by rw [put_dfr, put_dfr]; exact inv.df.1, by rw [put_dfr]; exact inv.df.2⟩, ⟨by rw [put_size, put_size]; exact inv.sz.1, by rw [put_size]; exact inv.sz.2.1, by rw [put_size, put_size]; exact inv.sz.2.2⟩, fun p e t x h1 h2 h3 h4 => ?_, fun t ht => ?_, ⟨w2, Fr.refl _ _, hrest⟩, ?_, by simp [hlsz], cld_set hol hdeps inv.cld⟩ hK'
      · rw [hset e]
        by_cases hpk : p = k
        · subst hpk
          rw [hp] at hpe
          cases hpe
          simp
        · have hne : e ≠ i := fun he => by
            subst he
            have h1 := (List.getElem?_eq_some_iff.1 hp)
            have h2 := (List.getElem?_eq_some_iff.1 hpe)
            exact hpk ((List.getElem_inj ok.nod).1 (h2.2.trans h1.2.symm))
          rw [show (e = i ∨ listed.getD e true = true) ↔ listed.getD e true = true from ⟨fun h => h.elim (fun h => absurd h hne) id, .inr⟩, inv.lst p e hpe]
          omega
      · have := (List.getElem?_eq_some_iff.1 hcl).1; omega
      · by_cases hto : o.dst = some t
        · by_cases hts : t < a.tmps.size
          · rw [hto, put_at hts, put_at (by rw [← inv.sz.2.2]; exact hts)]
          · rw [Array.getElem?_eq_none (by rw [put_size]; omega), Array.getElem?_eq_none (by rw [put_size, ← inv.sz.2.2]; omega)]
        · rw [put_out hto, put_out hto]
          by_cases hpk : p = k
          · subst hpk
            rw [hp] at h2
            cases h2
            rw [hol] at h3
            cases h3
            exact absurd h4 hto
          · exact inv.don p e t x (by omega) h2 h3 h4
      · have hto : o.dst ≠ some t := ht k i o (by omega) hp hol
        rw [put_out hto, put_out hto, put_out hto]
        exact inv.out t (fun p e x h1 h2 h3 => ht p e x (by omega) h2 h3)
      · cases cl with
        | true =>
          rcases inv.cls with h | h
          · exact .inl (h.trans (hcl2 rfl))
          · refine .inr (fun j hj hjn hjl => h j hj hjn ?_)
            cases e : listed.getD j true with
            | false => rfl
            | true => rw [(hset j).2 (.inr e)] at hjl; cases hjl
        | false =>
          refine .inr (fun j hj hjn hjl => Classical.byContradiction fun hjp => ?_)
          have h1 := listed_depT inv.cld hlsz dp hdeps (by rw [hlsz]; exact hj) (hlate rfl j hj hjn hjp)
          rw [(hset j).2 (.inr h1)] at hjl
          cases hjl
    · -- one that only reads
      have hob : (boxedF (efIdx E) 0 l).toArray[i]? = some o := by rw [bxd_get, ho]; simp [hE]
      have hsel := Region.noSelect_spec ok.sel
      have hapart : ∀ t, (t ∈ o.looksAt l.toArray ∨ o.dst = some t) → ∀ (p e : Nat) (x : Oper), p < k → (efIdx E)[p]? = some e → l[e]? = some x → x.dst ≠ some t := fun t ht p e x _ h2 h3 h4 => by
        have := ok.ap i o hol hE e (List.mem_of_getElem? h2) x t h3 h4
        rcases ht with h | h
        · exact this.1 h
        · exact this.2 h
      obtain ⟨c1, c2⟩ := look_congr (ops := l.toArray) (o := o) (a := a) (a' := a') (fun cs b => hsel i o cs b ho) (fun t ht => (inv.out t (hapart t (.inl ht))).1)
      have hset : ∀ j, j ∈ efIdx E → (listed.setIfInBounds i true).getD j true = listed.getD j true := fun j hj => getD_set_ne true (fun e => hE (e ▸ hj))
      have hset2 : ∀ j, (listed.setIfInBounds i true).getD j true = false → listed.getD j true = false := fun j hj => by
        by_cases e : i = j
        · subst e; exact hun
        · rwa [getD_set_ne true e] at hj
      have key : ∀ v w', Fr (fun _ => False) w w' → (∀ wY, Fr S w0 wY → wpAnyQ P .any (boxedF (efIdx E) 0 l).toArray (fun w' => ∃ Y : FrW wY, w' = Y.val) (fun x => x = aF) fuel (listed.setIfInBounds i true) (a'.put o.dst v)) → wpAny P .any l.toArray Q fuel (listed.setIfInBounds i true) (a.put o.dst v) w' := fun v w' hf hK => by
        refine ih _ k (a'.put o.dst v) _ af w' ⟨fun p e hpe => by rw [hset e (List.mem_of_getElem? hpe)]; exact inv.lst p e hpe, inv.kle, ⟨by rw [put_dfr, put_dfr]; exact inv.df.1, inv.df.2⟩, ⟨by rw [put_size, put_size]; exact inv.sz.1, inv.sz.2.1, by rw [put_size]; exact inv.sz.2.2⟩, fun p e t x h1 h2 h3 h4 => ?_, fun t ht => ?_, ?_, ?_, by simp [hlsz], cld_set hol hdeps inv.cld⟩ hK
        · have hto : o.dst ≠ some t := fun hd => hapart t (.inr hd) p e x h1 h2 h3 h4
          rw [put_out hto]
          exact inv.don p e t x h1 h2 h3 h4
        · exact ⟨put_same (inv.out t ht).1 inv.sz.1, (inv.out t ht).2⟩
        · obtain ⟨wk, h1, h2⟩ := inv.eff
          exact ⟨wk, h1.trans hf, h2⟩
        · exact inv.cls.imp (fun h => h.trans' hf (fun _ _ e => e.elim)) (fun h j hj hjn hjl => h j hj hjn (hset2 j hjl))
      unfold wpOp
      rw [ho]
      simp only []
      rw [c2]
      rcases inv.cls with hcls | hcls
      · obtain ⟨v, hY, hK⟩ := all_putS (w0 := w0) (fuel := fuel) (a' := a') hob hi' uniq (by omega) hH w hcls
        rcases hY with ⟨hw, hq⟩ | ⟨hw, rfl⟩
        · rw [bxd_yielded] at hw
          rw [if_pos hw]
          left
          refine Oper.wp_of_quiet (C := fun w' => ∃ Y : FrW w, w' = Y.val) (K := fun x => x = a.put o.dst v) ⟨⟨w, Fr.refl _ w⟩, rfl⟩ ?_ ⟨v, fun w1 h1 => ?_, rfl⟩
          · rintro x w' ⟨Y, rfl⟩ rfl
            exact key v _ Y.fr hK
          · have := hq w1 h1
            unfold Oper.quietAt at *
            rw [c1]
            exact this
        · rw [bxd_yielded] at hw
          rw [if_neg (by rw [hw]; simp)]
          exact key undef w (Fr.refl _ w) hK
      · have hip := hcls i hil hE hun
        obtain ⟨hog, hos⟩ := ok.pur i hip o hol
        obtain ⟨v, hv⟩ := hpu i hip o hol
        obtain ⟨v', hY, hK⟩ := all_putS (w0 := w0) (fuel := fuel) (a' := a') hob hi' uniq (by omega) hH w0 (Fr.refl _ _)
        have hfin : ∀ t ∈ o.looksAt l.toArray, a'.tmps[t]? = aF.tmps[t]? := fun t ht => fin t (fun j y hy hyd => listed_dep hdeps (by rw [hlsz]; exact (List.getElem?_eq_some_iff.1 hy).1) (sees_spec hos ht hy hyd))
        obtain ⟨d1, _⟩ := look_congr (ops := l.toArray) (o := o) (a := a') (a' := aF) (fun cs b => hsel i o cs b ho) hfin
        have hvv : v' = v := by
          rcases hY with ⟨_, hq⟩ | ⟨hw, _⟩
          · have h1 := hq w0 ⟨⟨w0, Fr.refl _ _⟩, rfl⟩
            unfold Oper.quietAt at h1
            rw [d1, hv w0] at h1
            exact h1.2.symm
          · simp [Region.wanted, hog] at hw
        subst hvv
        simp only [Region.wanted, hog, if_true]
        left
        unfold Oper.wp
        rw [c1, d1, hv w]
        exact key v' w (Fr.refl _ w) hK
theorem wp_region_effS {id : Nat} {a : Act} {w : World} (S : Nat → Prop) (E : Efs) (pu : List Nat) (dp : Nat) {l' : List Oper} (hm : P.follows .mixedOrders = true) (hl : boxedF (efIdx E) 0 l = l') (hB : efB l E pu dp = true) (hL : Region.lexB .any l'.toArray = true)
    (h : ∃ aF : Act, (∀ X : World, Fr S w X → wpQuiet P l'.toArray (fun w' => ∃ Y : FrW X, w' = Y.val) (fun a' => a' = aF) l' a) ∧
      (∀ i ∈ pu, ∀ o, l[i]? = some o → ∃ v, ∀ w, (execOp aF.eval o).run P w = .ok (.value v) w) ∧ wpEfS S P l.toArray (fun x y => Q .normal x y) (efOps l E) aF w) : (Code.region id l.toArray true).wp P Q a w := by
  have ok := efB_ok hB
  obtain ⟨aF, h, hpu, he⟩ := h
  subst hl
  simp only [Region.lexB, Bool.and_eq_true] at hL
  have hH : ∀ wX, Fr S w wX → wpAnyQ P .any (boxedF (efIdx E) 0 l).toArray (fun w' => ∃ Y : FrW wX, w' = Y.val) (fun x => x = aF) l.toArray.size (Array.replicate l.toArray.size false) a := fun wX hX => by
    have := wpAnyQ_lex (C := fun w' => ∃ Y : FrW wX, w' = Y.val) (md := .any) hL.1 (boxedF (efIdx E) 0 l) 0 (Array.replicate (boxedF (efIdx E) 0 l).toArray.size false) a (by simp) (by simpa using hL.2) (h wX hX)
    rw [bxd_size] at this
    simpa [bxd_len] using this
  obtain ⟨hs, hd⟩ := fin_sz _ _ _ (hH w (Fr.refl _ _))
  refine wp_region_any hm (eff_simS (S := S) (w0 := w) (aF := aF) ok hpu _ _ 0 a a aF _ ⟨fun p e hpe => ?_, Nat.zero_le _, ⟨rfl, rfl⟩, ⟨rfl, rfl, hs.symm⟩, fun p e t o hp => by omega, fun t _ => ⟨rfl, rfl⟩, ⟨w, (Fr.refl _ w).drew, by simpa using he⟩, .inl (Fr.refl _ w).drew, by simp, fun j x hx hj => ?_⟩ hH)
  rotate_left
  · have := (List.getElem?_eq_some_iff.1 hx).1
    simp [this] at hj
  obtain ⟨b, hb⟩ := efIdx_some hpe
  obtain ⟨o, ho, _⟩ := ok.eff _ (List.mem_of_getElem? hb)
  have hel := (List.getElem?_eq_some_iff.1 ho).1
  dsimp only at hel
  constructor
  · intro h1
    simp [hel] at h1
  · intro h1; omega
end
end Go.Proofs.YtefjdcghdcbojaaGreat

namespace Go.Proofs.YtefjdcghdcbojaaGreat
open Go.RowKit Go.Maps
theorem Inv.trans {A B C : List BE} (h : Inv A B) (h2 : Inv B C) : Inv A C := ⟨h2.1, h2.2.trans h.2⟩
def DoP (w W : World) (g gx : Nat) (M : List BE) (KF KX : Nat → Prop) (e : Ending) (W' : World) : Prop := ∃ M', e = .returned (.bool true) ∧ Inv M M' ∧ PQ w W' g gx M' M' KF KX ∧ Fr (fun b => ¬ (KF b ∧ KX b)) W W'
set_option maxRecDepth 100000 in
set_option maxHeartbeats 16000000 in
theorem lDo (w W : World) (g gx : Nat) (M : List BE) (KF KX : Nat → Prop) (o : BOp) (h : PQ w W g gx M M KF KX) (ho : okBop W o) : Calls Tryz.prog 13 #[.pointer (some ⟨g, 0, none⟩), .pointer (some ⟨gx, 0, none⟩), .agg (bopC o)] W fun e W' => DoP w W g gx M KF KX e W' := by
  obtain ⟨K, s, n, b, t⟩ := o
  obtain ⟨hK, hs, hn, hb, ht⟩ := ho
  dsimp only at hK hs hn hb ht
  dsimp only [bopC]
  obtain ⟨n0, hn0⟩ : ∃ n0, W.heap.size = n0 := ⟨_, rfl⟩
  obtain ⟨W1, hW1⟩ : ∃ W1, W.alloc (.cells #[.int .i64 K, vS s, .int .i64 n, .int .i64 b, .int .i64 t] 41) = W1 := ⟨_, rfl⟩
  have hz1 : W1.heap.size = n0 + 1 := by rw [← hW1, ← hn0]; simp
  have hfa : Fr (fun _ => False) W W1 := by rw [← hW1]; exact (Fr.refl _ W).alloc _
  have h1 : PQ w W1 g gx M M (fun c => KF c ∨ c = n0) (fun c => KX c ∨ c = n0) := h.more hfa (fun c e => e.imp id (fun e => by omega)) (fun c e => e.imp id (fun e => by omega))
  have HZ : Hid (∀ W', Fr (fun c => ¬ (KF c ∨ c = n0) ∨ ¬ (KX c ∨ c = n0)) W1 W' → W'.cell? ⟨n0, 0, none⟩ = some (.int .i64 K) ∧ W'.cell? ⟨n0, 1, none⟩ = some (vS s) ∧ W'.cell? ⟨n0, 2, none⟩ = some (.int .i64 n) ∧ W'.cell? ⟨n0, 3, none⟩ = some (.int .i64 b) ∧ W'.cell? ⟨n0, 4, none⟩ = some (.int .i64 t)) := Lib.hid (fun W' hf => by
    have h0 : W1.heap[n0]? = some (.cells #[.int .i64 K, vS s, .int .i64 n, .int .i64 b, .int .i64 t] 41) := by rw [← hW1]; exact heap_at hn0.symm _
    have h2 := hf.at_ h0 (fun e => e.elim (fun e => e (.inr rfl)) (fun e => e (.inr rfl)))
    exact ⟨cell_obj h2 0 _ rfl, cell_obj h2 1 _ rfl, cell_obj h2 2 _ rfl, cell_obj h2 3 _ rfl, cell_obj h2 4 _ rfl⟩)
  have HEND : Hid (∀ M' W', Inv M M' → PQ w W' g gx M' M' (fun c => KF c ∨ c = n0) (fun c => KX c ∨ c = n0) → Fr (fun c => ¬ (KF c ∨ c = n0) ∨ ¬ (KX c ∨ c = n0)) W1 W' → DoP w W g gx M KF KX (.returned (.bool true)) W') := Lib.hid (fun M' W' hi hq hf => ⟨M', rfl, hi, hq.less (fun c e => .inl e) (fun c e => .inl e), (hfa.mono (S' := fun c => ¬ (KF c ∧ KX c)) (fun _ _ e => e.elim)).trans' hf (fun c hc e => fun e2 => e.elim (fun e => e (.inl e2.1)) (fun e => e (.inl e2.2)))⟩)
  have hok := h.okM
  have hc1 := fun W' N (hq : PQ w W' g gx M N (fun c => KF c ∨ c = n0) (fun c => KX c ∨ c = n0)) => hq.fcount b s n hs hn
  have hc2 := fun W' N (hq : PQ w W' g gx N M (fun c => KF c ∨ c = n0) (fun c => KX c ∨ c = n0)) => hq.rcount b s n hs hn
  have hv1 := fun W' N (hq : PQ w W' g gx M N (fun c => KF c ∨ c = n0) (fun c => KX c ∨ c = n0)) => hq.fmove s b t n hs
  have hv2 := fun W' N (hq : PQ w W' g gx N M (fun c => KF c ∨ c = n0) (fun c => KX c ∨ c = n0)) => hq.rmove s b t n hs hn
  have hp1 := fun W' N (hq : PQ w W' g gx M N (fun c => KF c ∨ c = n0) (fun c => KX c ∨ c = n0)) => hq.fput s n hs
  have hp2 := fun W' N KX' (hq : PQ w W' g gx N M (fun c => KF c ∨ c = n0) KX') => hq.rput s n hs
  have ht1 := fun W' N (hq : PQ w W' g gx M N (fun c => KF c ∨ c = n0) (fun c => KX c ∨ c = n0)) => hq.ftake s n hs
  have ht2 := fun W' N KX' (hq : PQ w W' g gx N M (fun c => KF c ∨ c = n0) KX') => hq.rtake s n hs
  have ip := putA_inv (s := s) (n := n) hok
  have it := takeA_inv (s := s) (n := n) hok
  have ic := countE_inv (nu := b) (s := s) (n := n) hok
  have iv := moveE_inv (s := s) (fr := b) (tt := t) (n := n) hok
  obtain ⟨⟨PE, PO, PM⟩, hP⟩ : ∃ A, putA M s n = A := ⟨_, rfl⟩
  obtain ⟨⟨TE, TO, TM⟩, hT⟩ : ∃ A, takeA M s n = A := ⟨_, rfl⟩
  obtain ⟨⟨CR, CE, CM⟩, hC⟩ : ∃ A, countE M b s n = A := ⟨_, rfl⟩
  obtain ⟨⟨VE, VM⟩, hV⟩ : ∃ A, moveE M s b t n = A := ⟨_, rfl⟩
  rw [hP] at ip; rw [hT] at it; rw [hC] at ic; rw [hV] at iv
  rw [hP] at hp1 hp2; rw [hT] at ht1 ht2; rw [hC] at hc1 hc2; rw [hV] at hv1 hv2
  dsimp only at ip it ic iv hp1 hp2 ht1 ht2 hc1 hc2 hv1 hv2
  have HP1 := Lib.hid hp1; have HP2 := Lib.hid hp2; have HT1 := Lib.hid ht1; have HT2 := Lib.hid ht2; have HC1 := Lib.hid hc1; have HC2 := Lib.hid hc2; have HV1 := Lib.hid hv1; have HV2 := Lib.hid hv2
  have IP := Lib.hid ip; have IT := Lib.hid it; have IC := Lib.hid ic; have IV := Lib.hid iv
  have HQ1 := Lib.hid h1
  have HF0 : Hid (Fr (fun c => ¬ (KF c ∨ c = n0) ∨ ¬ (KX c ∨ c = n0)) W1 W1) := Lib.hid (Fr.refl _ _)
  obtain ⟨PP, hPP⟩ : ∃ PP, DoP w W g gx M KF KX = PP := ⟨_, rfl⟩
  have HPP := Lib.hid hPP
  rw [hPP]
  clear hP hT hC hV hp1 hp2 ht1 ht2 hc1 hc2 hv1 hv2 ip it ic iv hok hPP h h1 hfa
  subst hn0
  subst hW1
  go_enter Tryz.func13, Tryz.ntmps13
  by_cases k1 : K = 1
  · subst k1
    go_wp2_with (first
      | (go_at_call 15; refine (HP1.out _ _ HQ1.out).mono ?_; rintro e w2 ⟨v2, rfl, hpl, hq, hf⟩; obtain ⟨a2, c2, rfl⟩ := hpl.sl; have HL2 := Lib.hid hpl; have HQ2 := Lib.hid hq; have HF2 := Lib.hid (HF0.out.trans (hf.mono (fun _ _ e => .inl e))); clear hpl hq hf; obtain ⟨z0, z1, z2, z3, z4⟩ := HZ.out _ HF2.out)
      | (go_at_call 40; refine (HP2.out _ _ _ HQ2.out).mono ?_; rintro e w3 ⟨v3, rfl, hpl, hq, hf⟩; obtain ⟨a3, c3, rfl⟩ := hpl.sl; have HL3 := Lib.hid hpl; have HL2 := Lib.hid (Pl.keepO HL2.out hf (fun e1 c e2 e3 => e3 (.inr ⟨e1, e2⟩))); have HQ3 := Lib.hid (hq.less (KF' := fun c => KF c ∨ c = _) (KX' := fun c => KX c ∨ c = _) (fun _ e => e) (fun _ e => .inl e)); have HF3 := Lib.hid (HF2.out.trans (hf.mono (fun _ _ e => .inr (fun e2 => e (.inl e2))))); clear hpl hq hf; clear z0 z1 z2 z3 z4)
      | (go_at_call 41; refine (lSame _ _ _ _ _ HL2.out HL3.out).mono ?_; rintro e w4 ⟨r4, rfl, hr4, hf4⟩; obtain rfl : r4 = true := hr4.2 rfl; have HF4 := Lib.hid hf4; clear hr4 hf4))
    rw [← HPP.out]
    exact HEND.out _ _ IP.out (HQ3.out.keep HF4.out) (HF3.out.trans (HF4.out.mono (fun _ _ e => e.elim)))
  by_cases k2 : K = 2
  · subst k2
    go_wp2_with (first
      | (go_at_call 16; refine (HT1.out _ _ HQ1.out).mono ?_; rintro e w2 ⟨v2, rfl, hpl, hq, hf⟩; obtain ⟨a2, c2, rfl⟩ := hpl.sl; have HL2 := Lib.hid hpl; have HQ2 := Lib.hid hq; have HF2 := Lib.hid (HF0.out.trans (hf.mono (fun _ _ e => .inl e))); clear hpl hq hf; obtain ⟨z0, z1, z2, z3, z4⟩ := HZ.out _ HF2.out)
      | (go_at_call 42; refine (HT2.out _ _ _ HQ2.out).mono ?_; rintro e w3 ⟨v3, rfl, hpl, hq, hf⟩; obtain ⟨a3, c3, rfl⟩ := hpl.sl; have HL3 := Lib.hid hpl; have HL2 := Lib.hid (Pl.keepO HL2.out hf (fun e1 c e2 e3 => e3 (.inr ⟨e1, e2⟩))); have HQ3 := Lib.hid (hq.less (KF' := fun c => KF c ∨ c = _) (KX' := fun c => KX c ∨ c = _) (fun _ e => e) (fun _ e => .inl e)); have HF3 := Lib.hid (HF2.out.trans (hf.mono (fun _ _ e => .inr (fun e2 => e (.inl e2))))); clear hpl hq hf; clear z0 z1 z2 z3 z4)
      | (go_at_call 41; refine (lSame _ _ _ _ _ HL2.out HL3.out).mono ?_; rintro e w4 ⟨r4, rfl, hr4, hf4⟩; obtain rfl : r4 = true := hr4.2 rfl; have HF4 := Lib.hid hf4; clear hr4 hf4))
    rw [← HPP.out]
    exact HEND.out _ _ IT.out (HQ3.out.keep HF4.out) (HF3.out.trans (HF4.out.mono (fun _ _ e => e.elim)))
  have hd1 : (K == 1) = false := by simpa using k1
  have hd2 : (K == 2) = false := by simpa using k2
  by_cases k3 : K = 3
  · subst k3
    clear hd1 hd2 k1 k2
    go_wp2_with fail
    refine wp_region_effS (fun c => ¬ (KF c ∨ c = W.heap.size) ∨ ¬ (KX c ∨ c = W.heap.size)) [(9, true), (19, true), (20, true), (21, true)] [] 0 (by kernel_rfl) rfl (by kernel_rfl) (by kernel_rfl) ?_
    apply Exists.intro
    refine ⟨?hh, ?pu, ?ef⟩
    case hh =>
      intro X hX
      obtain ⟨z0, z1, z2, z3, z4⟩ := HZ.out X hX
      have z0 := FrW.cell z0; have z1 := FrW.cell z1; have z2 := FrW.cell z2; have z3 := FrW.cell z3; have z4 := FrW.cell z4
      simp (config := { decide := true }) only [boxedF, efIdx, List.map_cons, List.map_nil, idleU, if_true, if_false, ite_true, ite_false]
      repeat (go_big_quiet_step (fail))
      exact wpQuiet_nil rfl
    case pu =>
      intro i' hi' o ho
      cases hi'
    case ef =>
      simp only [efOps, List.filterMap_cons, List.filterMap_nil, List.getElem?_cons_succ, List.getElem?_cons_zero, Option.map_some]
      intro w5 hw5
      go_wp2_with (go_at_call 43; refine (HV1.out _ _ (HQ1.out.keep hw5)).mono ?_; rintro e w6 ⟨rfl, hq, hf⟩; have HQ6 := Lib.hid hq; have HF6 := Lib.hid hf; clear hq hf)
      refine ⟨HF6.out.mono (fun _ _ e => .inl ⟨fun q => e (.inl q), fun q => e (.inr q)⟩), ?_⟩
      intro w7 hw7
      go_wp2_with (go_at_call 44; refine (HV2.out _ _ (HQ6.out.keep hw7)).mono ?_; rintro e w8 ⟨rfl, hq, hf⟩; have HQ8 := Lib.hid hq; have HF8 := Lib.hid hf; clear hq hf)
      refine ⟨HF8.out.mono (fun _ _ e => .inr ⟨fun q => e (.inl q), fun q => e (.inr q)⟩), ?_⟩
      intro w9 hw9
      go_wp2_with fail
      refine ⟨Fr.refl _ _, ?_⟩
      intro w10 hw10
      go_wp2_with fail
      refine ⟨Fr.refl _ _, ?_⟩
      intro w11 hw11
      have HQ := Lib.hid (((HQ8.out.keep hw9).keep hw10).keep hw11)
      have HF : Hid (Fr (fun c => ¬ (KF c ∨ c = W.heap.size) ∨ ¬ (KX c ∨ c = W.heap.size)) _ w11) := Lib.hid ((((((HF0.out.trans (hw5.mono (fun _ _ e => e.elim))).trans (HF6.out.mono (fun _ _ e => .inl e))).trans (hw7.mono (fun _ _ e => e.elim))).trans (HF8.out.mono (fun _ _ e => .inr e))).trans (hw9.mono (fun _ _ e => e.elim))).trans ((hw10.trans hw11).mono (fun _ _ e => e.elim)))
      clear hw5 hw7 hw9 hw10 hw11
      go_wp2_with fail
      rw [← HPP.out]
      exact HEND.out _ _ IV.out HQ.out HF.out
  have hd3 : (K == 3) = false := by simpa using k3
  by_cases k4 : K = 4
  · subst k4
    clear hd1 hd2 hd3 k1 k2 k3
    go_wp2_with (first
      | (go_at_call 45; refine (HC1.out _ _ HQ1.out).mono ?_; rintro e w2 ⟨rfl, hq, hf⟩; have HQ2 := Lib.hid hq; have HF2 := Lib.hid (HF0.out.trans (hf.mono (fun _ _ e => .inl e))); clear hq hf; obtain ⟨z0, z1, z2, z3, z4⟩ := HZ.out _ HF2.out)
      | (go_at_call 46; refine (HC2.out _ _ HQ2.out).mono ?_; rintro e w3 ⟨rfl, hq, hf⟩; have HQ3 := Lib.hid hq; have HF3 := Lib.hid (HF2.out.trans (hf.mono (fun _ _ e => .inr e))); clear hq hf; clear z0 z1 z2 z3 z4))
    rw [← HPP.out]
    exact HEND.out _ _ IC.out HQ3.out HF3.out
  have hd4 : (K == 4) = false := by simpa using k4
  go_wp2_with fail
  rw [← HPP.out]
  exact HEND.out _ _ (Inv.refl HQ1.out.okM) HQ1.out HF0.out
end Go.Proofs.YtefjdcghdcbojaaGreat

namespace Go.Proofs.YtefjdcghdcbojaaGreat
open Go.RowKit
section
variable {F : Fence} {n : Nat} {P : Program} {ops : Array Oper} {Q : Exit → Act → World → Prop} {md : Region.Mode}
end
end Go.Proofs.YtefjdcghdcbojaaGreat

namespace Go.Proofs.YtefjdcghdcbojaaGreat
open Go.RowKit Go.Maps
end Go.Proofs.YtefjdcghdcbojaaGreat

namespace Go.Proofs.YtefjdcghdcbojaaGreat
open Go.RowKit Go.Maps
attribute [local go_sem] Oper.semAt_some
structure LqI (w0 W : World) (n0 g gx : Nat) : Prop where
  bx : W.heap[n0]? = some (.cells #[.pointer (some ⟨gx, 0, none⟩)] 27)
  res : W.heap[n0 + 1]? = some (.cells #[.bool false] 4)
  bt : W.heap[n0 + 2]? = some (.cells #[.pointer (some ⟨g, 0, none⟩)] 23)
  fr : Fr (fun b => n0 ≤ b) w0 W
theorem LqI.keep {w0 W W' : World} {n0 g gx : Nat} {S : Nat → Prop} (h : LqI w0 W n0 g gx) (hf : Fr S W W') (hS : ∀ b, S b → n0 + 3 ≤ b) : LqI w0 W' n0 g gx :=
  ⟨hf.at_ h.bx (fun e => by have := hS _ e; omega), hf.at_ h.res (fun e => by have := hS _ e; omega), hf.at_ h.bt (fun e => by have := hS _ e; omega), h.fr.trans' hf (fun b _ e => by have := hS _ e; omega)⟩
theorem Rl.fr {S : Nat → Prop} {W W' : World} {g : Nat} {L : List BV} (h : Rl W g L) (hf : Fr S W W') (hS : ∀ b, S b → W.heap.size ≤ b) : Rl W' g L := by
  obtain ⟨a, c, h1, h2⟩ := h
  exact ⟨a, c, hf.at_ h1 (fun e => by have := (Array.getElem?_eq_some_iff.1 h1).1; have := hS g e; omega), h2.fr bokKeeps hf hS⟩
end Go.Proofs.YtefjdcghdcbojaaGreat

namespace Go.Proofs.YtefjdcghdcbojaaGreat
open Go.RowKit Go.Maps
end Go.Proofs.YtefjdcghdcbojaaGreat

namespace Go.Proofs.YtefjdcghdcbojaaGreat
open Go.RowKit Go.Maps
theorem okBopKeeps : Keeps okBop := fun _ _ _ _ h _ _ => h
theorem ra_new {w : World} {gr : Nat} {vr : Value} {B : List BI} (hB : ∀ b ∈ B, okI b.nu ∧ okI b.zo ∧ okI b.ro) (h0 : 0 < B.length) (h : w.heap[gr]? = some (.cells #[vr] 71)) (hr : w.ownsRow (gr + 1) 75 4 vr B.length (flat BV.cs (B.map BI.bv))) : ∃ TX, RA w gr TX (B.map BI.bv) ∧ ∀ b, TX b → gr ≤ b := by
  rcases hr.2 with ⟨e, h1⟩ | ⟨r, cap, cur, e, hbase, hb, hn', hm, hsz, ht⟩
  · omega
  · subst e
    have hl : (B.map BI.bv).length = B.length := List.length_map _
    have hrl := (Array.getElem?_eq_some_iff.1 hb).1
    refine ⟨fun b => b = gr ∨ b = r, ⟨⟨r, cap, cur, by rw [hl]; exact h, hb, by rw [hl]; exact hn', hm, hsz, by rw [hl]; exact ht, .inr rfl, by omega, fun b hb => ?_⟩, .inl rfl, fun b hb => ?_⟩, fun b hb => ?_⟩
    · obtain ⟨x, hx, rfl⟩ := List.mem_map.1 hb
      exact ⟨bi_bok (w := w) (hB x hx), fun hn => absurd rfl hn⟩
    · rcases hb with e | e <;> omega
    · rcases hb with e | e <;> omega
def KN : Nat → Prop := fun _ => False
section
variable {w W W' : World} {g gx : Nat} {M N : List BE} {KF KX : Nat → Prop}
theorem PQ.start {wa : World} {gr : Nat} {vr : Value} {B : List BI} (hB : ∀ b ∈ B, okI b.nu ∧ okI b.zo ∧ okI b.ro) (hm : mayBs B = true) (hS : FS w wa g (B.map BI.e)) (hgr : wa.heap.size ≤ gr) (hf : Fr (fun _ => False) wa W) (h : W.heap[gr]? = some (.cells #[vr] 71)) (hr : W.ownsRow (gr + 1) 75 4 vr B.length (flat BV.cs (B.map BI.bv))) : PQ w W g gr (B.map BI.e) (B.map BI.e) KN KN := by
  obtain ⟨⟨TS, L, h1, h2, h3⟩, h4, h5, h6⟩ := hS
  have hl : (B.map BI.e).length = B.length := List.length_map _
  obtain ⟨TX, k1, k2⟩ := ra_new hB (by omega) h hr
  have hz := h4.size
  refine ⟨⟨TS, TX, L, B.map BI.bv, h1.fr hf (fun _ _ e => e), k1, h2, bv_map B, fun b hb => ⟨h3 b hb, fun e => e, fun e => ?_⟩, fun b hb => ⟨?_, fun e => e⟩⟩, fun b hb => (hb.elim id id).elim, h4.trans hf, h5, h5, h6, h6⟩
  · have := h1.lt b hb
    have := k2 b e
    omega
  · have := k2 b hb
    omega
theorem PQ.swap {g' : Nat} {TS' : Nat → Prop} {L' : List BV} (h : PQ w W g gx M N KF KX) (hf : Fr (fun _ => False) W W') (hA : FA W' g' TS' L') (hM : L'.map BV.e = M) (hT : ∀ b, TS' b → W.heap.size ≤ b) : PQ w W' g' gx M N KF KX := by
  obtain ⟨⟨TS, TX, L, X, p1, p2, p3, p4, p5, p6⟩, q1, q2, q3, q4, q5, q6⟩ := h
  have hz := hf.size
  have hw := q2.size
  refine ⟨⟨TS', TX, L', X, hA, p2.fr hf (fun _ _ e => e), hM, p4, fun b hb => ⟨?_, fun e => ?_, fun e => ?_⟩, p6⟩, fun b hb => Nat.lt_of_lt_of_le (q1 b hb) hz, q2.trans hf, q3, q4, q5, q6⟩
  · have := hT b hb; omega
  · have := hT b hb
    have := q1 b (.inl e)
    omega
  · have := hT b hb
    have := p2.lt b e
    omega
end
end Go.Proofs.YtefjdcghdcbojaaGreat

namespace Go.Proofs.YtefjdcghdcbojaaGreat
open Go.RowKit Go.Maps
def sumP (L : List PV) : Int := (L.map PV.n).sum
theorem sumP_take {L : List PV} {k : Nat} {p : PV} (h : L[k]? = some p) : sumP (L.take (k + 1)) = sumP (L.take k) + p.n := by
  unfold sumP
  rw [List.take_add_one, h]
  simp
theorem sumP_nn {L : List PV} (h : ∀ p ∈ L, 1 ≤ p.n) : (L.length : Int) ≤ sumP L := by
  induction L with
  | nil => simp [sumP]
  | cons a r ih =>
    have h1 := h a List.mem_cons_self
    have h2 := ih (fun p hp => h p (List.mem_cons_of_mem _ hp))
    have e : sumP (a :: r) = a.n + sumP r := by simp [sumP]
    rw [e, List.length_cons]
    omega
theorem sumP_part {L : List PV} (h : ∀ p ∈ L, 1 ≤ p.n) (k : Nat) : 0 ≤ sumP (L.take k) ∧ sumP (L.take k) ≤ sumP L := by
  have h1 := sumP_nn (L := L.take k) (fun p hp => h p (List.mem_of_mem_take hp))
  have h2 := sumP_nn (L := L.drop k) (fun p hp => h p (List.mem_of_mem_drop hp))
  have e : sumP L = sumP (L.take k) + sumP (L.drop k) := by
    have := congrArg sumP (List.take_append_drop k L)
    rw [← this]
    unfold sumP
    rw [List.map_append, List.sum_append_int]
  omega
section
variable {M : List BE} {s : Str} {n : Int}
theorem have_in (h : ∀ b ∈ M, BEok b) (hl : M.length ≤ 64) : sumE M s = sumW (fun b => ofF b.its s) M ∧ 0 ≤ sumE M s ∧ sumE M s ≤ 70368744177664 := by
  have e := sumE_sum (s := s) h hl
  have h1 := sumW_nn (f := fun b => ofF b.its s) (M := M) (fun b hb => ((h b hb).ofs s).2.1)
  have h2 := sumW_le (f := fun b => ofF b.its s) (X := 1099511627776) (M := M) (fun b hb => ((h b hb).ofs s).2.2)
  rw [e]
  refine ⟨rfl, h1, ?_⟩
  have : (1099511627776 : Int) * (M.length : Int) ≤ 1099511627776 * 64 := Int.mul_le_mul_of_nonneg_left (by omega) (by omega)
  omega
theorem putA_cases (h : ∀ b ∈ M, BEok b) (hl : M.length ≤ 64) : ((putA M s n).1 ≠ 0 ∧ (putA M s n).2.1 = [] ∧ (putA M s n).2.2 = M) ∨
    ((putA M s n).1 = 0 ∧ mayF s n = 0 ∧ (∀ p ∈ (putA M s n).2.1, p.g = s ∧ 1 ≤ p.n) ∧ sumP (putA M s n).2.1 = n ∧ sumE (putA M s n).2.2 s = sumE M s + n) := by
  unfold putA
  by_cases hm : mayF s n = 0
  · rw [if_pos hm]
    obtain ⟨hg, h1, h2⟩ := mayF_zero hm
    have hp := put_sum h hg (n := n) (by omega)
    by_cases hr : 0 < (putF M s n).2.1
    · rw [if_pos hr]
      exact .inl ⟨by simp, rfl, rfl⟩
    · rw [if_neg hr]
      have hz : (putF M s n).2.1 = 0 := by have := hp.nn; omega
      obtain ⟨o', ho, ho2, ho3⟩ := hp.out
      rw [List.nil_append] at ho
      have hi := putF_inv (n := n) h hg
      refine .inr ⟨rfl, hm, ?_, ?_, ?_⟩
      · dsimp only; rw [ho]; exact ho2
      · dsimp only; rw [ho]; unfold sumP; rw [ho3, hz]; omega
      · dsimp only
        rw [(have_in hi.1 (by rw [binI_len hi.2]; exact hl)).1, (have_in h hl).1, hp.wt, hz]
        omega
  · rw [if_neg hm]
    exact .inl ⟨by simp, rfl, rfl⟩
theorem takeA_ok (h : ∀ b ∈ M, BEok b) (hl : M.length ≤ 64) (hm : mayF s n = 0) (hn : n ≤ sumE M s) : (takeA M s n).1 = 0 ∧ 0 < (takeA M s n).2.1.length ∧ sumE (takeA M s n).2.2 s = sumE M s - n := by
  obtain ⟨hg, h1, h2⟩ := mayF_zero hm
  have hv := have_in (s := s) h hl
  have hf := full_take h hg (R := n) (by omega) (by omega)
  have hp := take_sum h hg (n := n) (by omega)
  have hi := takeF_inv (n := n) h hg
  unfold takeA
  rw [if_pos hm, if_neg (by omega)]
  obtain ⟨o', ho, ho2, ho3⟩ := hp.out
  rw [List.nil_append] at ho
  refine ⟨rfl, ?_, ?_⟩
  · dsimp only
    rw [ho]
    cases o' with
    | nil => exfalso; rw [hf.1] at ho3; simp at ho3; omega
    | cons a r => simp
  · dsimp only
    rw [(have_in hi.1 (by rw [binI_len hi.2]; exact hl)).1, hv.1, hf.2]
theorem takeA_more (h : ∀ b ∈ M, BEok b) (hl : M.length ≤ 64) (hg : goodB s = true) : (takeA M s (sumE M s + 1)).2.2 = M ∧ ((takeA M s (sumE M s + 1)).1 = 51 ∨ ((takeA M s (sumE M s + 1)).1 = 60 ∧ 1099511627776 < sumE M s + 1)) := by
  have hv := have_in (s := s) h hl
  unfold takeA
  by_cases hm : mayF s (sumE M s + 1) = 0
  · have hf := take_less h hg (n := sumE M s + 1) (by omega) (by omega)
    rw [if_pos hm, if_pos hf]
    exact ⟨rfl, .inl rfl⟩
  · rw [if_neg hm]
    refine ⟨rfl, .inr ⟨rfl, ?_⟩⟩
    apply Classical.byContradiction
    intro hle
    refine hm ?_
    unfold mayF
    rw [if_pos ⟨hg, by omega, mayI_iff.2 ⟨by omega, by omega⟩⟩]
end
end Go.Proofs.YtefjdcghdcbojaaGreat

namespace Go.Proofs.YtefjdcghdcbojaaGreat
open Go.ChangeShapes Go.WideShapes Go.RowKit Go.Deep Go.ChangeMaps
section
variable {H : Type} {enc : TypeId × Value → H} {P : Program} {w : World} {base : Nat} {spare : Nat → Bool} {held : Bool}
theorem open_strV {r : Reach} {b0 : Nat} {t : TypeId} {v : Value} {d : DataW H} {p : List MemPlace} (hs : P.underlying t = some .string) (hv : Value.okWide P w r b0 t v) (h : DataW.Trod enc P w base spare held t v d p) : ∃ s : Str, v = vS s ∧ okS s := by
  obtain ⟨s, rfl, -⟩ := open_string hs hv h
  obtain ⟨n, h⟩ := h
  exact leaf_str hs h
end
end Go.Proofs.YtefjdcghdcbojaaGreat

