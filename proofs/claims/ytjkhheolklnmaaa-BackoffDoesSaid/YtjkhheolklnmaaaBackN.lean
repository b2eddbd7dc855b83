/- backoff's law BackoffDoes, in pieces: each piece of its code is a theorem over a frame of letters (written by does_gen.py). -/
import Derived.Test.YtjkhheolklnmaaaBackM
import Derived.BigQuiet
import Derived.Deep.LoopGhost
namespace Go.Proofs.Ytjkhheolklnmaaa
open Go.RowKit Go.Maps
def findBlock (n : Nat) : Code → Option Code
  | .block m c => if m = n then some (.block m c) else findBlock n c
  | .loop c => findBlock n c
  | .scope c => findBlock n c
  | .seq a b => match findBlock n a with
    | some c => some c
    | none => findBlock n b
  | .cond _ a b => match findBlock n a with
    | some c => some c
    | none => findBlock n b
  | _ => none
def findRegion (n : Nat) : Code → Option Code
  | .region m o d => if m = n then some (.region m o d) else none
  | .block _ c => findRegion n c
  | .loop c => findRegion n c
  | .scope c => findRegion n c
  | .seq a b => match findRegion n a with
    | some c => some c
    | none => findRegion n b
  | .cond _ a b => match findRegion n a with
    | some c => some c
    | none => findRegion n b
  | _ => none
noncomputable def doesB4 : Code := ((Try.f6.body.bind (findBlock 4)).getD .skip)
noncomputable def doesB5 : Code := ((Try.f6.body.bind (findBlock 5)).getD .skip)
noncomputable def doesR41 : Code := ((Try.f6.body.bind (findRegion 41)).getD .skip)
set_option maxRecDepth 1000000 in
set_option maxHeartbeats 4000000 in
theorem doesA1 {s0 s2 s3 s4 s7 s9 s11 s12 s13 s14 s15 s16 s17 s18 s19 s20 s21 s22 s23 s24 s25 s26 s27 s28 s29 s30 s31 s32 s33 s34 s35 s36 s37 s38 s39 s40 s41 s42 s43 s44 s45 s46 s47 s48 s49 s50 s51 s52 s53 s54 s55 s56 s57 s58 s59 s60 s61 s62 s63 s64 s65 s66 s67 s68 s69 s70 s71 s72 s73 s74 s75 s76 s77 s78 s79 s81 s82 s83 s84 s85 s86 s87 s88 s89 s90 s91 s92 s93 s94 s95 s96 s97 s98 s99 s100 s101 s102 s103 s104 s105 s106 s107 s108 s109 s110 s111 s112 s113 s114 s115 s116 s117 s118 s119 s120 s121 s122 s123 s124 s125 s126 s127 s128 s129 s130 s131 s132 s133 s134 s135 s136 s137 s138 s139 s140 s141 s142 s143 s144 s145 s146 s147 s148 s149 s150 s151 s152 s153 s154 s155 s156 s157 s158 s159 s160 s161 s162 s163 s164 s165 s166 s167 s168 s169 s170 s171 s172 s173 s174 s175 s176 s177 s178 s179 s180 s181 s182 s183 s184 s185 s186 s187 s188 s189 s190 s191 s192 s193 s194 s195 s196 s197 s198 s199 s200 s201 s202 s203 s204 s205 s206 s207 s208 s209 s210 s211 s212 s213 s214 s215 s216 s217 s218 s219 s220 s221 s222 s223 s224 : Value} {Q0 : Exit → Act → World → Prop} {w wr : World} {g m ob jn c6 : Nat} {a6 : Option Addr} {now ky ta : Int} {X : List KV} {gs : Option Int}
    (HS2 : Hid (St w wr g m ob 1 ky ta (.slice a6 jn c6) X)) (HKY : Hid (okI ky)) (HXN : Hid (X.length = jn)) (HGS : Hid (getS X ky = gs)) (hjn : (jn : Int) ≤ 200)
    (HQ : Hid (∀ {x z14 z15 z16 z17 z81 z82 z83 z84 z85 z86 z87 z88 z89 z90 z91 z92 z93 z94 z95 z96 z97 z98 z99 z100 z101 z102 z103 z104 z105 z106 z107 z108 z109 z110 z111 z112 z113 z114 z115 z116 z117 z118 z119 z120 z121 z122 z123 z124 z125 z126 z127 z128 z129 z130 z131 z132 z133 z134 z135 z136 z137 z138 z139 z140 z141 z142 : Value} {wx : World} (X' : List KV), (X'.length : Int) ≤ jn + 1 → St w wx g m ob 1 ky ta x X' → Q0 .normal ⟨#[s0, .int .i64 now, s2, s3, s4, .pointer (some ⟨g, 0, none⟩), x, s7, .pointer (some ⟨ob, 0, none⟩), s9, .bool gs.isSome, s11, s12, s13, z14, z15, z16, z17, s18, s19, s20, s21, s22, s23, s24, s25, s26, s27, s28, s29, s30, s31, s32, s33, s34, s35, s36, s37, s38, s39, s40, s41, s42, s43, s44, s45, s46, s47, s48, s49, s50, s51, s52, s53, s54, s55, s56, s57, s58, s59, s60, s61, s62, s63, s64, s65, s66, s67, s68, s69, s70, s71, s72, s73, s74, s75, s76, s77, s78, s79, .int .i64 1, z81, z82, z83, z84, z85, z86, z87, z88, z89, z90, z91, z92, z93, z94, z95, z96, z97, z98, z99, z100, z101, z102, z103, z104, z105, z106, z107, z108, z109, z110, z111, z112, z113, z114, z115, z116, z117, z118, z119, z120, z121, z122, z123, z124, z125, z126, z127, z128, z129, z130, z131, z132, z133, z134, z135, z136, z137, z138, z139, z140, z141, z142, s143, s144, s145, s146, s147, s148, s149, s150, s151, s152, s153, s154, s155, s156, s157, s158, s159, s160, s161, s162, s163, s164, s165, s166, s167, s168, s169, s170, s171, s172, s173, s174, s175, s176, s177, s178, s179, s180, s181, s182, s183, s184, s185, s186, s187, s188, s189, s190, s191, s192, s193, s194, s195, s196, s197, s198, s199, s200, s201, s202, s203, s204, s205, s206, s207, s208, s209, s210, s211, s212, s213, s214, s215, s216, s217, s218, s219, s220, s221, s222, s223, s224], []⟩ wx)) :
    Code.wp Try.prog doesB4 Q0 ⟨#[s0, .int .i64 now, s2, s3, s4, .pointer (some ⟨g, 0, none⟩), .slice a6 jn c6, s7, .pointer (some ⟨ob, 0, none⟩), s9, .bool gs.isSome, s11, s12, s13, s14, s15, s16, s17, s18, s19, s20, s21, s22, s23, s24, s25, s26, s27, s28, s29, s30, s31, s32, s33, s34, s35, s36, s37, s38, s39, s40, s41, s42, s43, s44, s45, s46, s47, s48, s49, s50, s51, s52, s53, s54, s55, s56, s57, s58, s59, s60, s61, s62, s63, s64, s65, s66, s67, s68, s69, s70, s71, s72, s73, s74, s75, s76, s77, s78, s79, .int .i64 1, s81, s82, s83, s84, s85, s86, s87, s88, s89, s90, s91, s92, s93, s94, s95, s96, s97, s98, s99, s100, s101, s102, s103, s104, s105, s106, s107, s108, s109, s110, s111, s112, s113, s114, s115, s116, s117, s118, s119, s120, s121, s122, s123, s124, s125, s126, s127, s128, s129, s130, s131, s132, s133, s134, s135, s136, s137, s138, s139, s140, s141, s142, s143, s144, s145, s146, s147, s148, s149, s150, s151, s152, s153, s154, s155, s156, s157, s158, s159, s160, s161, s162, s163, s164, s165, s166, s167, s168, s169, s170, s171, s172, s173, s174, s175, s176, s177, s178, s179, s180, s181, s182, s183, s184, s185, s186, s187, s188, s189, s190, s191, s192, s193, s194, s195, s196, s197, s198, s199, s200, s201, s202, s203, s204, s205, s206, s207, s208, s209, s210, s211, s212, s213, s214, s215, s216, s217, s218, s219, s220, s221, s222, s223, s224], []⟩ wr := by
  conv => arg 2; whnf
  obtain ⟨q0, q1, q2⟩ := HS2.out.cells
  have HND := Lib.hid HS2.out.tx.nd
  go_wp2_with fail
  refine (xSet wr g m X ky ta HS2.out.tx HKY.out (by have := HXN.out; omega)).mono ?_
  rintro e w5 ⟨rfl, hT, hf⟩
  have HU := Lib.hid (HS2.out.turn hT hf)
  obtain ⟨r0, r1, r2⟩ := HU.out.cells
  clear q0 q1 q2 hT hf HS2
  go_wp2_with fail
  refine (rSet w5 (m + 1) _ X ky ta HU.out.sl (by have := HXN.out; omega)).mono ?_
  rintro e w6 ⟨v6, rfl, hown, hb⟩
  have HSt := Lib.hid (HU.out.laid hown hb)
  have hlt : (tSet X ky ta).length ≤ jn + 1 := by
    have := delS_length X ky; have := HXN.out
    unfold tSet; rw [tIns_len]; omega
  clear hown hb HU r0 r1 r2
  go_wp2_with fail
  exact HQ.out _ (by omega) HSt.out
set_option maxRecDepth 1000000 in
set_option maxHeartbeats 4000000 in
theorem doesA2 {s0 s2 s3 s4 s7 s9 s11 s12 s13 s14 s15 s16 s17 s18 s19 s20 s21 s22 s23 s24 s25 s26 s27 s28 s29 s30 s31 s32 s33 s34 s35 s36 s37 s38 s39 s40 s41 s42 s43 s44 s45 s46 s47 s48 s49 s50 s51 s52 s53 s54 s55 s56 s57 s58 s59 s60 s61 s62 s63 s64 s65 s66 s67 s68 s69 s70 s71 s72 s73 s74 s75 s76 s77 s78 s79 s81 s82 s83 s84 s85 s86 s87 s88 s89 s90 s91 s92 s93 s94 s95 s96 s97 s98 s99 s100 s101 s102 s103 s104 s105 s106 s107 s108 s109 s110 s111 s112 s113 s114 s115 s116 s117 s118 s119 s120 s121 s122 s123 s124 s125 s126 s127 s128 s129 s130 s131 s132 s133 s134 s135 s136 s137 s138 s139 s140 s141 s142 s143 s144 s145 s146 s147 s148 s149 s150 s151 s152 s153 s154 s155 s156 s157 s158 s159 s160 s161 s162 s163 s164 s165 s166 s167 s168 s169 s170 s171 s172 s173 s174 s175 s176 s177 s178 s179 s180 s181 s182 s183 s184 s185 s186 s187 s188 s189 s190 s191 s192 s193 s194 s195 s196 s197 s198 s199 s200 s201 s202 s203 s204 s205 s206 s207 s208 s209 s210 s211 s212 s213 s214 s215 s216 s217 s218 s219 s220 s221 s222 s223 s224 : Value} {Q0 : Exit → Act → World → Prop} {w wr : World} {g m ob jn c6 : Nat} {a6 : Option Addr} {now ky ta : Int} {X : List KV} {gs : Option Int}
    (HS2 : Hid (St w wr g m ob 2 ky ta (.slice a6 jn c6) X)) (HKY : Hid (okI ky)) (HXN : Hid (X.length = jn)) (HGS : Hid (getS X ky = gs)) (hjn : (jn : Int) ≤ 200)
    (HQ : Hid (∀ {x z14 z15 z16 z17 z81 z82 z83 z84 z85 z86 z87 z88 z89 z90 z91 z92 z93 z94 z95 z96 z97 z98 z99 z100 z101 z102 z103 z104 z105 z106 z107 z108 z109 z110 z111 z112 z113 z114 z115 z116 z117 z118 z119 z120 z121 z122 z123 z124 z125 z126 z127 z128 z129 z130 z131 z132 z133 z134 z135 z136 z137 z138 z139 z140 z141 z142 : Value} {wx : World} (X' : List KV), (X'.length : Int) ≤ jn + 1 → St w wx g m ob 2 ky ta x X' → Q0 .normal ⟨#[s0, .int .i64 now, s2, s3, s4, .pointer (some ⟨g, 0, none⟩), x, s7, .pointer (some ⟨ob, 0, none⟩), s9, .bool gs.isSome, s11, s12, s13, z14, z15, z16, z17, s18, s19, s20, s21, s22, s23, s24, s25, s26, s27, s28, s29, s30, s31, s32, s33, s34, s35, s36, s37, s38, s39, s40, s41, s42, s43, s44, s45, s46, s47, s48, s49, s50, s51, s52, s53, s54, s55, s56, s57, s58, s59, s60, s61, s62, s63, s64, s65, s66, s67, s68, s69, s70, s71, s72, s73, s74, s75, s76, s77, s78, s79, .int .i64 2, z81, z82, z83, z84, z85, z86, z87, z88, z89, z90, z91, z92, z93, z94, z95, z96, z97, z98, z99, z100, z101, z102, z103, z104, z105, z106, z107, z108, z109, z110, z111, z112, z113, z114, z115, z116, z117, z118, z119, z120, z121, z122, z123, z124, z125, z126, z127, z128, z129, z130, z131, z132, z133, z134, z135, z136, z137, z138, z139, z140, z141, z142, s143, s144, s145, s146, s147, s148, s149, s150, s151, s152, s153, s154, s155, s156, s157, s158, s159, s160, s161, s162, s163, s164, s165, s166, s167, s168, s169, s170, s171, s172, s173, s174, s175, s176, s177, s178, s179, s180, s181, s182, s183, s184, s185, s186, s187, s188, s189, s190, s191, s192, s193, s194, s195, s196, s197, s198, s199, s200, s201, s202, s203, s204, s205, s206, s207, s208, s209, s210, s211, s212, s213, s214, s215, s216, s217, s218, s219, s220, s221, s222, s223, s224], []⟩ wx)) :
    Code.wp Try.prog doesB4 Q0 ⟨#[s0, .int .i64 now, s2, s3, s4, .pointer (some ⟨g, 0, none⟩), .slice a6 jn c6, s7, .pointer (some ⟨ob, 0, none⟩), s9, .bool gs.isSome, s11, s12, s13, s14, s15, s16, s17, s18, s19, s20, s21, s22, s23, s24, s25, s26, s27, s28, s29, s30, s31, s32, s33, s34, s35, s36, s37, s38, s39, s40, s41, s42, s43, s44, s45, s46, s47, s48, s49, s50, s51, s52, s53, s54, s55, s56, s57, s58, s59, s60, s61, s62, s63, s64, s65, s66, s67, s68, s69, s70, s71, s72, s73, s74, s75, s76, s77, s78, s79, .int .i64 2, s81, s82, s83, s84, s85, s86, s87, s88, s89, s90, s91, s92, s93, s94, s95, s96, s97, s98, s99, s100, s101, s102, s103, s104, s105, s106, s107, s108, s109, s110, s111, s112, s113, s114, s115, s116, s117, s118, s119, s120, s121, s122, s123, s124, s125, s126, s127, s128, s129, s130, s131, s132, s133, s134, s135, s136, s137, s138, s139, s140, s141, s142, s143, s144, s145, s146, s147, s148, s149, s150, s151, s152, s153, s154, s155, s156, s157, s158, s159, s160, s161, s162, s163, s164, s165, s166, s167, s168, s169, s170, s171, s172, s173, s174, s175, s176, s177, s178, s179, s180, s181, s182, s183, s184, s185, s186, s187, s188, s189, s190, s191, s192, s193, s194, s195, s196, s197, s198, s199, s200, s201, s202, s203, s204, s205, s206, s207, s208, s209, s210, s211, s212, s213, s214, s215, s216, s217, s218, s219, s220, s221, s222, s223, s224], []⟩ wr := by
  conv => arg 2; whnf
  obtain ⟨q0, q1, q2⟩ := HS2.out.cells
  have HND := Lib.hid HS2.out.tx.nd
  have HDD : Hid (Calls Try.prog 19 #[.pointer (some ⟨g, 0, none⟩), .int .i64 ky] wr fun e w' => e = .returned (.bool gs.isSome) ∧ TX w' g m (delS X ky) ∧ Fr (fun b => b = m) wr w') := by
    have := xDrop wr g m X ky HS2.out.tx HKY.out
    rw [HGS.out] at this
    exact Lib.hid this
  go_wp2_with fail
  refine HDD.out.mono ?_
  rintro e w5 ⟨rfl, hT, hf⟩
  have HU := Lib.hid (HS2.out.turn hT hf)
  obtain ⟨r0, r1, r2⟩ := HU.out.cells
  clear q0 q1 q2 hT hf HS2 HDD
  go_wp2_with fail
  refine (rDrop w5 (m + 1) _ X ky HU.out.sl (by have := HXN.out; omega)).mono ?_
  rintro e w6 ⟨v6, rfl, hown, hb⟩
  have HSt := Lib.hid (HU.out.laid hown hb)
  have hlt : (delS X ky).length ≤ jn + 1 := by have := delS_length X ky; have := HXN.out; omega
  clear hown hb HU r0 r1 r2
  go_wp2_with fail
  exact HQ.out _ (by omega) HSt.out
set_option maxRecDepth 1000000 in
set_option maxHeartbeats 4000000 in
theorem doesA3 {s0 s2 s3 s4 s7 s9 s11 s12 s13 s14 s15 s16 s17 s18 s19 s20 s21 s22 s23 s24 s25 s26 s27 s28 s29 s30 s31 s32 s33 s34 s35 s36 s37 s38 s39 s40 s41 s42 s43 s44 s45 s46 s47 s48 s49 s50 s51 s52 s53 s54 s55 s56 s57 s58 s59 s60 s61 s62 s63 s64 s65 s66 s67 s68 s69 s70 s71 s72 s73 s74 s75 s76 s77 s78 s79 s81 s82 s83 s84 s85 s86 s87 s88 s89 s90 s91 s92 s93 s94 s95 s96 s97 s98 s99 s100 s101 s102 s103 s104 s105 s106 s107 s108 s109 s110 s111 s112 s113 s114 s115 s116 s117 s118 s119 s120 s121 s122 s123 s124 s125 s126 s127 s128 s129 s130 s131 s132 s133 s134 s135 s136 s137 s138 s139 s140 s141 s142 s143 s144 s145 s146 s147 s148 s149 s150 s151 s152 s153 s154 s155 s156 s157 s158 s159 s160 s161 s162 s163 s164 s165 s166 s167 s168 s169 s170 s171 s172 s173 s174 s175 s176 s177 s178 s179 s180 s181 s182 s183 s184 s185 s186 s187 s188 s189 s190 s191 s192 s193 s194 s195 s196 s197 s198 s199 s200 s201 s202 s203 s204 s205 s206 s207 s208 s209 s210 s211 s212 s213 s214 s215 s216 s217 s218 s219 s220 s221 s222 s223 s224 : Value} {Q0 : Exit → Act → World → Prop} {w wr : World} {g m ob jn c6 : Nat} {a6 : Option Addr} {now ky ta : Int} {X : List KV} {gs : Option Int}
    (HS2 : Hid (St w wr g m ob 3 ky ta (.slice a6 jn c6) X)) (HKY : Hid (okI ky)) (HXN : Hid (X.length = jn)) (HGS : Hid (getS X ky = gs)) (hjn : (jn : Int) ≤ 200) (hpop : ∃ p1 p2 r, X = (p1, p2) :: r ∧ p2 ≤ ta)
    (HQ : Hid (∀ {x z14 z15 z16 z17 z81 z82 z83 z84 z85 z86 z87 z88 z89 z90 z91 z92 z93 z94 z95 z96 z97 z98 z99 z100 z101 z102 z103 z104 z105 z106 z107 z108 z109 z110 z111 z112 z113 z114 z115 z116 z117 z118 z119 z120 z121 z122 z123 z124 z125 z126 z127 z128 z129 z130 z131 z132 z133 z134 z135 z136 z137 z138 z139 z140 z141 z142 : Value} {wx : World} (X' : List KV), (X'.length : Int) ≤ jn + 1 → St w wx g m ob 3 ky ta x X' → Q0 .normal ⟨#[s0, .int .i64 now, s2, s3, s4, .pointer (some ⟨g, 0, none⟩), x, s7, .pointer (some ⟨ob, 0, none⟩), s9, .bool gs.isSome, s11, s12, s13, z14, z15, z16, z17, s18, s19, s20, s21, s22, s23, s24, s25, s26, s27, s28, s29, s30, s31, s32, s33, s34, s35, s36, s37, s38, s39, s40, s41, s42, s43, s44, s45, s46, s47, s48, s49, s50, s51, s52, s53, s54, s55, s56, s57, s58, s59, s60, s61, s62, s63, s64, s65, s66, s67, s68, s69, s70, s71, s72, s73, s74, s75, s76, s77, s78, s79, .int .i64 3, z81, z82, z83, z84, z85, z86, z87, z88, z89, z90, z91, z92, z93, z94, z95, z96, z97, z98, z99, z100, z101, z102, z103, z104, z105, z106, z107, z108, z109, z110, z111, z112, z113, z114, z115, z116, z117, z118, z119, z120, z121, z122, z123, z124, z125, z126, z127, z128, z129, z130, z131, z132, z133, z134, z135, z136, z137, z138, z139, z140, z141, z142, s143, s144, s145, s146, s147, s148, s149, s150, s151, s152, s153, s154, s155, s156, s157, s158, s159, s160, s161, s162, s163, s164, s165, s166, s167, s168, s169, s170, s171, s172, s173, s174, s175, s176, s177, s178, s179, s180, s181, s182, s183, s184, s185, s186, s187, s188, s189, s190, s191, s192, s193, s194, s195, s196, s197, s198, s199, s200, s201, s202, s203, s204, s205, s206, s207, s208, s209, s210, s211, s212, s213, s214, s215, s216, s217, s218, s219, s220, s221, s222, s223, s224], []⟩ wx)) :
    Code.wp Try.prog doesB4 Q0 ⟨#[s0, .int .i64 now, s2, s3, s4, .pointer (some ⟨g, 0, none⟩), .slice a6 jn c6, s7, .pointer (some ⟨ob, 0, none⟩), s9, .bool gs.isSome, s11, s12, s13, s14, s15, s16, s17, s18, s19, s20, s21, s22, s23, s24, s25, s26, s27, s28, s29, s30, s31, s32, s33, s34, s35, s36, s37, s38, s39, s40, s41, s42, s43, s44, s45, s46, s47, s48, s49, s50, s51, s52, s53, s54, s55, s56, s57, s58, s59, s60, s61, s62, s63, s64, s65, s66, s67, s68, s69, s70, s71, s72, s73, s74, s75, s76, s77, s78, s79, .int .i64 3, s81, s82, s83, s84, s85, s86, s87, s88, s89, s90, s91, s92, s93, s94, s95, s96, s97, s98, s99, s100, s101, s102, s103, s104, s105, s106, s107, s108, s109, s110, s111, s112, s113, s114, s115, s116, s117, s118, s119, s120, s121, s122, s123, s124, s125, s126, s127, s128, s129, s130, s131, s132, s133, s134, s135, s136, s137, s138, s139, s140, s141, s142, s143, s144, s145, s146, s147, s148, s149, s150, s151, s152, s153, s154, s155, s156, s157, s158, s159, s160, s161, s162, s163, s164, s165, s166, s167, s168, s169, s170, s171, s172, s173, s174, s175, s176, s177, s178, s179, s180, s181, s182, s183, s184, s185, s186, s187, s188, s189, s190, s191, s192, s193, s194, s195, s196, s197, s198, s199, s200, s201, s202, s203, s204, s205, s206, s207, s208, s209, s210, s211, s212, s213, s214, s215, s216, s217, s218, s219, s220, s221, s222, s223, s224], []⟩ wr := by
  conv => arg 2; whnf
  obtain ⟨q0, q1, q2⟩ := HS2.out.cells
  have HND := Lib.hid HS2.out.tx.nd
  obtain ⟨p1, p2, r, rfl, hp⟩ := hpop
  have hj0 : (0 : Int) < jn := by have := HXN.out; simp at this; omega
  have hj1 : 0 < jn := by omega
  have hdu : dueL ((p1, p2) :: r) ta = (p1, p2) :: dueL r ta := by simp [dueL, hp]
  have HPO := Lib.hid (xPop_some wr g m _ ta _ _ HS2.out.tx (by have := HXN.out; omega) hdu)
  rw [delS_head HND.out] at HPO
  clear hdu
  go_wp2_with fail
  refine HPO.out.mono ?_
  rintro e w5 ⟨rfl, hT, hf⟩
  have HU := Lib.hid (HS2.out.turn hT hf)
  obtain ⟨r0, r1, r2⟩ := HU.out.cells
  obtain ⟨ax, rfl, d1, d2⟩ := HU.out.sl.at0
  have hc6 : (jn : Int) ≤ c6 := by
    obtain ⟨a', c', e, h1, -⟩ := HU.out.sl
    injection e with _ e2 e3
    omega
  have hjc : 1 ≤ c6 := by omega
  clear q0 q1 q2 hT hf HS2 HPO
  go_wp2_with fail
  go_quiet (fail)
  go_wp2_with fail
  · exact HQ.out r (by have := HXN.out; simp at this; omega) ((HU.out.shrunk (HU.out.sl.rest.1 _ (by assumption))).drewN _)
  · exact HQ.out r (by have := HXN.out; simp at this; omega) ((HU.out.shrunk HU.out.sl.rest.2).drewN _)
set_option maxRecDepth 1000000 in
set_option maxHeartbeats 4000000 in
theorem doesA4 {s0 s2 s3 s4 s7 s9 s11 s12 s13 s14 s15 s16 s17 s18 s19 s20 s21 s22 s23 s24 s25 s26 s27 s28 s29 s30 s31 s32 s33 s34 s35 s36 s37 s38 s39 s40 s41 s42 s43 s44 s45 s46 s47 s48 s49 s50 s51 s52 s53 s54 s55 s56 s57 s58 s59 s60 s61 s62 s63 s64 s65 s66 s67 s68 s69 s70 s71 s72 s73 s74 s75 s76 s77 s78 s79 s81 s82 s83 s84 s85 s86 s87 s88 s89 s90 s91 s92 s93 s94 s95 s96 s97 s98 s99 s100 s101 s102 s103 s104 s105 s106 s107 s108 s109 s110 s111 s112 s113 s114 s115 s116 s117 s118 s119 s120 s121 s122 s123 s124 s125 s126 s127 s128 s129 s130 s131 s132 s133 s134 s135 s136 s137 s138 s139 s140 s141 s142 s143 s144 s145 s146 s147 s148 s149 s150 s151 s152 s153 s154 s155 s156 s157 s158 s159 s160 s161 s162 s163 s164 s165 s166 s167 s168 s169 s170 s171 s172 s173 s174 s175 s176 s177 s178 s179 s180 s181 s182 s183 s184 s185 s186 s187 s188 s189 s190 s191 s192 s193 s194 s195 s196 s197 s198 s199 s200 s201 s202 s203 s204 s205 s206 s207 s208 s209 s210 s211 s212 s213 s214 s215 s216 s217 s218 s219 s220 s221 s222 s223 s224 : Value} {Q0 : Exit → Act → World → Prop} {w wr : World} {g m ob jn c6 : Nat} {a6 : Option Addr} {now ky ta : Int} {X : List KV} {gs : Option Int}
    (HS2 : Hid (St w wr g m ob 3 ky ta (.slice a6 jn c6) X)) (HKY : Hid (okI ky)) (HXN : Hid (X.length = jn)) (HGS : Hid (getS X ky = gs)) (hjn : (jn : Int) ≤ 200) (hpop : ¬ ∃ p1 p2 r, X = (p1, p2) :: r ∧ p2 ≤ ta)
    (HQ : Hid (∀ {x z14 z15 z16 z17 z81 z82 z83 z84 z85 z86 z87 z88 z89 z90 z91 z92 z93 z94 z95 z96 z97 z98 z99 z100 z101 z102 z103 z104 z105 z106 z107 z108 z109 z110 z111 z112 z113 z114 z115 z116 z117 z118 z119 z120 z121 z122 z123 z124 z125 z126 z127 z128 z129 z130 z131 z132 z133 z134 z135 z136 z137 z138 z139 z140 z141 z142 : Value} {wx : World} (X' : List KV), (X'.length : Int) ≤ jn + 1 → St w wx g m ob 3 ky ta x X' → Q0 .normal ⟨#[s0, .int .i64 now, s2, s3, s4, .pointer (some ⟨g, 0, none⟩), x, s7, .pointer (some ⟨ob, 0, none⟩), s9, .bool gs.isSome, s11, s12, s13, z14, z15, z16, z17, s18, s19, s20, s21, s22, s23, s24, s25, s26, s27, s28, s29, s30, s31, s32, s33, s34, s35, s36, s37, s38, s39, s40, s41, s42, s43, s44, s45, s46, s47, s48, s49, s50, s51, s52, s53, s54, s55, s56, s57, s58, s59, s60, s61, s62, s63, s64, s65, s66, s67, s68, s69, s70, s71, s72, s73, s74, s75, s76, s77, s78, s79, .int .i64 3, z81, z82, z83, z84, z85, z86, z87, z88, z89, z90, z91, z92, z93, z94, z95, z96, z97, z98, z99, z100, z101, z102, z103, z104, z105, z106, z107, z108, z109, z110, z111, z112, z113, z114, z115, z116, z117, z118, z119, z120, z121, z122, z123, z124, z125, z126, z127, z128, z129, z130, z131, z132, z133, z134, z135, z136, z137, z138, z139, z140, z141, z142, s143, s144, s145, s146, s147, s148, s149, s150, s151, s152, s153, s154, s155, s156, s157, s158, s159, s160, s161, s162, s163, s164, s165, s166, s167, s168, s169, s170, s171, s172, s173, s174, s175, s176, s177, s178, s179, s180, s181, s182, s183, s184, s185, s186, s187, s188, s189, s190, s191, s192, s193, s194, s195, s196, s197, s198, s199, s200, s201, s202, s203, s204, s205, s206, s207, s208, s209, s210, s211, s212, s213, s214, s215, s216, s217, s218, s219, s220, s221, s222, s223, s224], []⟩ wx)) :
    Code.wp Try.prog doesB4 Q0 ⟨#[s0, .int .i64 now, s2, s3, s4, .pointer (some ⟨g, 0, none⟩), .slice a6 jn c6, s7, .pointer (some ⟨ob, 0, none⟩), s9, .bool gs.isSome, s11, s12, s13, s14, s15, s16, s17, s18, s19, s20, s21, s22, s23, s24, s25, s26, s27, s28, s29, s30, s31, s32, s33, s34, s35, s36, s37, s38, s39, s40, s41, s42, s43, s44, s45, s46, s47, s48, s49, s50, s51, s52, s53, s54, s55, s56, s57, s58, s59, s60, s61, s62, s63, s64, s65, s66, s67, s68, s69, s70, s71, s72, s73, s74, s75, s76, s77, s78, s79, .int .i64 3, s81, s82, s83, s84, s85, s86, s87, s88, s89, s90, s91, s92, s93, s94, s95, s96, s97, s98, s99, s100, s101, s102, s103, s104, s105, s106, s107, s108, s109, s110, s111, s112, s113, s114, s115, s116, s117, s118, s119, s120, s121, s122, s123, s124, s125, s126, s127, s128, s129, s130, s131, s132, s133, s134, s135, s136, s137, s138, s139, s140, s141, s142, s143, s144, s145, s146, s147, s148, s149, s150, s151, s152, s153, s154, s155, s156, s157, s158, s159, s160, s161, s162, s163, s164, s165, s166, s167, s168, s169, s170, s171, s172, s173, s174, s175, s176, s177, s178, s179, s180, s181, s182, s183, s184, s185, s186, s187, s188, s189, s190, s191, s192, s193, s194, s195, s196, s197, s198, s199, s200, s201, s202, s203, s204, s205, s206, s207, s208, s209, s210, s211, s212, s213, s214, s215, s216, s217, s218, s219, s220, s221, s222, s223, s224], []⟩ wr := by
  conv => arg 2; whnf
  obtain ⟨q0, q1, q2⟩ := HS2.out.cells
  have HND := Lib.hid HS2.out.tx.nd
  have hdu : dueL X ta = [] := by
    rcases X with _ | ⟨⟨p1, p2⟩, r⟩
    · rfl
    · have : ¬ p2 ≤ ta := fun h => hpop ⟨p1, p2, r, rfl, h⟩
      simp [dueL, this]
  have HPO := Lib.hid (xPop_none wr g m _ ta HS2.out.tx (by have := HXN.out; omega) hdu)
  clear hdu
  go_wp2_with fail
  refine HPO.out.mono ?_
  rintro e w5 ⟨rfl, hf⟩
  have HSu := Lib.hid (HS2.out.still hf)
  obtain ⟨r0, r1, r2⟩ := HSu.out.cells
  clear q0 q1 q2 hf HS2 HPO
  have hsplit : ((0 : Int) < jn ∧ ∃ p1 p2 ax, a6 = some ax ∧ ¬ p2 ≤ ta ∧ w5.cell? ax = some (.int .i64 p1) ∧ w5.cell? ⟨ax.block, ax.off + 1, none⟩ = some (.int .i64 p2)) ∨ jn = 0 := by
    rcases X with _ | ⟨⟨p1, p2⟩, r⟩
    · exact .inr (by have := HXN.out; simpa using this.symm)
    · obtain ⟨ax, e, d1, d2⟩ := HSu.out.sl.at0
      exact .inl ⟨by have := HXN.out; simp at this; omega, p1, p2, ax, e, fun h => hpop ⟨p1, p2, r, rfl, h⟩, d1, d2⟩
  clear hpop
  rcases hsplit with ⟨hj0, p1, p2, ax, rfl, hnp, d1, d2⟩ | rfl
  · have hj1 : 0 < jn := by omega
    go_wp2_with fail
    go_quiet (fail)
    go_wp2_with fail
    exact HQ.out X (by have := HXN.out; omega) (HSu.out.drewN _)
  · go_wp2_with fail
    go_quiet (fail)
    go_wp2_with fail
    exact HQ.out X (by have := HXN.out; omega) (HSu.out.drewN _)
set_option maxRecDepth 1000000 in
set_option maxHeartbeats 4000000 in
theorem doesA0 {s0 s2 s3 s4 s7 s9 s11 s12 s13 s14 s15 s16 s17 s18 s19 s20 s21 s22 s23 s24 s25 s26 s27 s28 s29 s30 s31 s32 s33 s34 s35 s36 s37 s38 s39 s40 s41 s42 s43 s44 s45 s46 s47 s48 s49 s50 s51 s52 s53 s54 s55 s56 s57 s58 s59 s60 s61 s62 s63 s64 s65 s66 s67 s68 s69 s70 s71 s72 s73 s74 s75 s76 s77 s78 s79 s81 s82 s83 s84 s85 s86 s87 s88 s89 s90 s91 s92 s93 s94 s95 s96 s97 s98 s99 s100 s101 s102 s103 s104 s105 s106 s107 s108 s109 s110 s111 s112 s113 s114 s115 s116 s117 s118 s119 s120 s121 s122 s123 s124 s125 s126 s127 s128 s129 s130 s131 s132 s133 s134 s135 s136 s137 s138 s139 s140 s141 s142 s143 s144 s145 s146 s147 s148 s149 s150 s151 s152 s153 s154 s155 s156 s157 s158 s159 s160 s161 s162 s163 s164 s165 s166 s167 s168 s169 s170 s171 s172 s173 s174 s175 s176 s177 s178 s179 s180 s181 s182 s183 s184 s185 s186 s187 s188 s189 s190 s191 s192 s193 s194 s195 s196 s197 s198 s199 s200 s201 s202 s203 s204 s205 s206 s207 s208 s209 s210 s211 s212 s213 s214 s215 s216 s217 s218 s219 s220 s221 s222 s223 s224 : Value} {Q0 : Exit → Act → World → Prop} {w wr : World} {g m ob jn c6 : Nat} {a6 : Option Addr} {now ky ta kd : Int} {X : List KV} {gs : Option Int}
    (HS2 : Hid (St w wr g m ob kd ky ta (.slice a6 jn c6) X)) (HKY : Hid (okI ky)) (HXN : Hid (X.length = jn)) (HGS : Hid (getS X ky = gs)) (hjn : (jn : Int) ≤ 200) (k1 : ¬ kd = 1) (k2 : ¬ kd = 2) (k3 : ¬ kd = 3)
    (HQ : Hid (∀ {x z14 z15 z16 z17 z81 z82 z83 z84 z85 z86 z87 z88 z89 z90 z91 z92 z93 z94 z95 z96 z97 z98 z99 z100 z101 z102 z103 z104 z105 z106 z107 z108 z109 z110 z111 z112 z113 z114 z115 z116 z117 z118 z119 z120 z121 z122 z123 z124 z125 z126 z127 z128 z129 z130 z131 z132 z133 z134 z135 z136 z137 z138 z139 z140 z141 z142 : Value} {wx : World} (X' : List KV), (X'.length : Int) ≤ jn + 1 → St w wx g m ob kd ky ta x X' → Q0 .normal ⟨#[s0, .int .i64 now, s2, s3, s4, .pointer (some ⟨g, 0, none⟩), x, s7, .pointer (some ⟨ob, 0, none⟩), s9, .bool gs.isSome, s11, s12, s13, z14, z15, z16, z17, s18, s19, s20, s21, s22, s23, s24, s25, s26, s27, s28, s29, s30, s31, s32, s33, s34, s35, s36, s37, s38, s39, s40, s41, s42, s43, s44, s45, s46, s47, s48, s49, s50, s51, s52, s53, s54, s55, s56, s57, s58, s59, s60, s61, s62, s63, s64, s65, s66, s67, s68, s69, s70, s71, s72, s73, s74, s75, s76, s77, s78, s79, .int .i64 kd, z81, z82, z83, z84, z85, z86, z87, z88, z89, z90, z91, z92, z93, z94, z95, z96, z97, z98, z99, z100, z101, z102, z103, z104, z105, z106, z107, z108, z109, z110, z111, z112, z113, z114, z115, z116, z117, z118, z119, z120, z121, z122, z123, z124, z125, z126, z127, z128, z129, z130, z131, z132, z133, z134, z135, z136, z137, z138, z139, z140, z141, z142, s143, s144, s145, s146, s147, s148, s149, s150, s151, s152, s153, s154, s155, s156, s157, s158, s159, s160, s161, s162, s163, s164, s165, s166, s167, s168, s169, s170, s171, s172, s173, s174, s175, s176, s177, s178, s179, s180, s181, s182, s183, s184, s185, s186, s187, s188, s189, s190, s191, s192, s193, s194, s195, s196, s197, s198, s199, s200, s201, s202, s203, s204, s205, s206, s207, s208, s209, s210, s211, s212, s213, s214, s215, s216, s217, s218, s219, s220, s221, s222, s223, s224], []⟩ wx)) :
    Code.wp Try.prog doesB4 Q0 ⟨#[s0, .int .i64 now, s2, s3, s4, .pointer (some ⟨g, 0, none⟩), .slice a6 jn c6, s7, .pointer (some ⟨ob, 0, none⟩), s9, .bool gs.isSome, s11, s12, s13, s14, s15, s16, s17, s18, s19, s20, s21, s22, s23, s24, s25, s26, s27, s28, s29, s30, s31, s32, s33, s34, s35, s36, s37, s38, s39, s40, s41, s42, s43, s44, s45, s46, s47, s48, s49, s50, s51, s52, s53, s54, s55, s56, s57, s58, s59, s60, s61, s62, s63, s64, s65, s66, s67, s68, s69, s70, s71, s72, s73, s74, s75, s76, s77, s78, s79, .int .i64 kd, s81, s82, s83, s84, s85, s86, s87, s88, s89, s90, s91, s92, s93, s94, s95, s96, s97, s98, s99, s100, s101, s102, s103, s104, s105, s106, s107, s108, s109, s110, s111, s112, s113, s114, s115, s116, s117, s118, s119, s120, s121, s122, s123, s124, s125, s126, s127, s128, s129, s130, s131, s132, s133, s134, s135, s136, s137, s138, s139, s140, s141, s142, s143, s144, s145, s146, s147, s148, s149, s150, s151, s152, s153, s154, s155, s156, s157, s158, s159, s160, s161, s162, s163, s164, s165, s166, s167, s168, s169, s170, s171, s172, s173, s174, s175, s176, s177, s178, s179, s180, s181, s182, s183, s184, s185, s186, s187, s188, s189, s190, s191, s192, s193, s194, s195, s196, s197, s198, s199, s200, s201, s202, s203, s204, s205, s206, s207, s208, s209, s210, s211, s212, s213, s214, s215, s216, s217, s218, s219, s220, s221, s222, s223, s224], []⟩ wr := by
  conv => arg 2; whnf
  obtain ⟨q0, q1, q2⟩ := HS2.out.cells
  have HND := Lib.hid HS2.out.tx.nd
  go_wp2_with fail
  exact HQ.out X (by have := HXN.out; omega) HS2.out
set_option maxRecDepth 1000000 in
theorem doesA {s0 s2 s3 s4 s7 s9 s11 s12 s13 s14 s15 s16 s17 s18 s19 s20 s21 s22 s23 s24 s25 s26 s27 s28 s29 s30 s31 s32 s33 s34 s35 s36 s37 s38 s39 s40 s41 s42 s43 s44 s45 s46 s47 s48 s49 s50 s51 s52 s53 s54 s55 s56 s57 s58 s59 s60 s61 s62 s63 s64 s65 s66 s67 s68 s69 s70 s71 s72 s73 s74 s75 s76 s77 s78 s79 s81 s82 s83 s84 s85 s86 s87 s88 s89 s90 s91 s92 s93 s94 s95 s96 s97 s98 s99 s100 s101 s102 s103 s104 s105 s106 s107 s108 s109 s110 s111 s112 s113 s114 s115 s116 s117 s118 s119 s120 s121 s122 s123 s124 s125 s126 s127 s128 s129 s130 s131 s132 s133 s134 s135 s136 s137 s138 s139 s140 s141 s142 s143 s144 s145 s146 s147 s148 s149 s150 s151 s152 s153 s154 s155 s156 s157 s158 s159 s160 s161 s162 s163 s164 s165 s166 s167 s168 s169 s170 s171 s172 s173 s174 s175 s176 s177 s178 s179 s180 s181 s182 s183 s184 s185 s186 s187 s188 s189 s190 s191 s192 s193 s194 s195 s196 s197 s198 s199 s200 s201 s202 s203 s204 s205 s206 s207 s208 s209 s210 s211 s212 s213 s214 s215 s216 s217 s218 s219 s220 s221 s222 s223 s224 : Value} {Q0 : Exit → Act → World → Prop} {w wr : World} {g m ob jn c6 : Nat} {a6 : Option Addr} {now ky ta kd : Int} {X : List KV} {gs : Option Int}
    (HS2 : Hid (St w wr g m ob kd ky ta (.slice a6 jn c6) X)) (HKY : Hid (okI ky)) (HXN : Hid (X.length = jn)) (HGS : Hid (getS X ky = gs)) (hjn : (jn : Int) ≤ 200)
    (HQ : Hid (∀ {x z14 z15 z16 z17 z81 z82 z83 z84 z85 z86 z87 z88 z89 z90 z91 z92 z93 z94 z95 z96 z97 z98 z99 z100 z101 z102 z103 z104 z105 z106 z107 z108 z109 z110 z111 z112 z113 z114 z115 z116 z117 z118 z119 z120 z121 z122 z123 z124 z125 z126 z127 z128 z129 z130 z131 z132 z133 z134 z135 z136 z137 z138 z139 z140 z141 z142 : Value} {wx : World} (X' : List KV), (X'.length : Int) ≤ jn + 1 → St w wx g m ob kd ky ta x X' → Q0 .normal ⟨#[s0, .int .i64 now, s2, s3, s4, .pointer (some ⟨g, 0, none⟩), x, s7, .pointer (some ⟨ob, 0, none⟩), s9, .bool gs.isSome, s11, s12, s13, z14, z15, z16, z17, s18, s19, s20, s21, s22, s23, s24, s25, s26, s27, s28, s29, s30, s31, s32, s33, s34, s35, s36, s37, s38, s39, s40, s41, s42, s43, s44, s45, s46, s47, s48, s49, s50, s51, s52, s53, s54, s55, s56, s57, s58, s59, s60, s61, s62, s63, s64, s65, s66, s67, s68, s69, s70, s71, s72, s73, s74, s75, s76, s77, s78, s79, .int .i64 kd, z81, z82, z83, z84, z85, z86, z87, z88, z89, z90, z91, z92, z93, z94, z95, z96, z97, z98, z99, z100, z101, z102, z103, z104, z105, z106, z107, z108, z109, z110, z111, z112, z113, z114, z115, z116, z117, z118, z119, z120, z121, z122, z123, z124, z125, z126, z127, z128, z129, z130, z131, z132, z133, z134, z135, z136, z137, z138, z139, z140, z141, z142, s143, s144, s145, s146, s147, s148, s149, s150, s151, s152, s153, s154, s155, s156, s157, s158, s159, s160, s161, s162, s163, s164, s165, s166, s167, s168, s169, s170, s171, s172, s173, s174, s175, s176, s177, s178, s179, s180, s181, s182, s183, s184, s185, s186, s187, s188, s189, s190, s191, s192, s193, s194, s195, s196, s197, s198, s199, s200, s201, s202, s203, s204, s205, s206, s207, s208, s209, s210, s211, s212, s213, s214, s215, s216, s217, s218, s219, s220, s221, s222, s223, s224], []⟩ wx)) :
    Code.wp Try.prog doesB4 Q0 ⟨#[s0, .int .i64 now, s2, s3, s4, .pointer (some ⟨g, 0, none⟩), .slice a6 jn c6, s7, .pointer (some ⟨ob, 0, none⟩), s9, .bool gs.isSome, s11, s12, s13, s14, s15, s16, s17, s18, s19, s20, s21, s22, s23, s24, s25, s26, s27, s28, s29, s30, s31, s32, s33, s34, s35, s36, s37, s38, s39, s40, s41, s42, s43, s44, s45, s46, s47, s48, s49, s50, s51, s52, s53, s54, s55, s56, s57, s58, s59, s60, s61, s62, s63, s64, s65, s66, s67, s68, s69, s70, s71, s72, s73, s74, s75, s76, s77, s78, s79, .int .i64 kd, s81, s82, s83, s84, s85, s86, s87, s88, s89, s90, s91, s92, s93, s94, s95, s96, s97, s98, s99, s100, s101, s102, s103, s104, s105, s106, s107, s108, s109, s110, s111, s112, s113, s114, s115, s116, s117, s118, s119, s120, s121, s122, s123, s124, s125, s126, s127, s128, s129, s130, s131, s132, s133, s134, s135, s136, s137, s138, s139, s140, s141, s142, s143, s144, s145, s146, s147, s148, s149, s150, s151, s152, s153, s154, s155, s156, s157, s158, s159, s160, s161, s162, s163, s164, s165, s166, s167, s168, s169, s170, s171, s172, s173, s174, s175, s176, s177, s178, s179, s180, s181, s182, s183, s184, s185, s186, s187, s188, s189, s190, s191, s192, s193, s194, s195, s196, s197, s198, s199, s200, s201, s202, s203, s204, s205, s206, s207, s208, s209, s210, s211, s212, s213, s214, s215, s216, s217, s218, s219, s220, s221, s222, s223, s224], []⟩ wr := by
  by_cases k1 : kd = 1
  · subst k1; exact doesA1 HS2 HKY HXN HGS hjn HQ
  by_cases k2 : kd = 2
  · subst k2; exact doesA2 HS2 HKY HXN HGS hjn HQ
  by_cases k3 : kd = 3
  · subst k3
    by_cases hpop : ∃ p1 p2 r, X = (p1, p2) :: r ∧ p2 ≤ ta
    · exact doesA3 HS2 HKY HXN HGS hjn hpop HQ
    · exact doesA4 HS2 HKY HXN HGS hjn hpop HQ
  · exact doesA0 HS2 HKY HXN HGS hjn k1 k2 k3 HQ
set_option maxRecDepth 1000000 in
set_option maxHeartbeats 4000000 in
theorem doesL {s0 s2 s3 s4 s7 s9 s10 s11 s12 s13 s14 s15 s16 s17 s20 s21 s22 s23 s24 s25 s26 s27 s28 s29 s30 s31 s32 s33 s34 s35 s36 s37 s38 s39 s40 s41 s42 s43 s44 s45 s46 s47 s48 s49 s50 s51 s52 s53 s54 s55 s56 s57 s58 s59 s60 s61 s62 s63 s64 s65 s66 s67 s68 s69 s70 s71 s72 s73 s74 s75 s76 s77 s78 s79 s80 s81 s82 s83 s84 s85 s86 s87 s88 s89 s90 s91 s92 s93 s94 s95 s96 s97 s98 s99 s100 s101 s102 s103 s104 s105 s106 s107 s108 s109 s110 s111 s112 s113 s114 s115 s116 s117 s118 s119 s120 s121 s122 s123 s124 s125 s126 s127 s128 s129 s130 s131 s132 s133 s134 s135 s136 s137 s138 s139 s140 s141 s142 s143 s144 s145 s146 s147 s148 s149 s150 s151 s152 s153 s154 s155 s156 s157 s158 s159 s160 s161 s162 s163 s164 s165 s166 s167 s168 s169 s170 s171 s172 s173 s174 s175 s176 s177 s178 s179 s180 s181 s182 s183 s184 s185 s186 s187 s188 s189 s190 s191 s192 s193 s194 s195 s196 s197 s198 s199 s200 s201 s202 s203 s204 s205 s206 s207 s208 s209 s210 s211 s212 s213 s214 s215 s216 s217 s218 s219 s220 s221 s222 s223 s224 : Value} {Q0 : Exit → Act → World → Prop} {w w8 : World} {g m ob xt ct dn cd rb : Nat} {at' ad' : Option Addr} {now kd ky ta : Int} {X' D : List KV}
    (HS8 : Hid (St w w8 g m ob kd ky ta (.slice at' xt ct) X')) (HR : Hid (RowD w8 rb ad' D)) (hxt : (xt : Int) ≤ 1000) (hd4 : (dn : Int) ≤ xt) (HXT : Hid (X'.length = xt)) (HDN : Hid (D.length = dn))
    (HD1 : Hid (∀ (j : Nat) (p : KV), D[j]? = some p → X'[j]? = some p ∧ p.2 ≤ now)) (HD2 : Hid (∀ p : KV, X'[dn]? = some p → now < p.2))
    (HQ : Hid (∀ {z4 z146 z147 z148 z149 z150 z151 z152 z153 z154 z155 z156 z157 z158 z159 z160 z161 z162 z163 z164 z165 z166 z167 z168 z169 z170 z171 z172 z173 z174 z175 z176 : Value} {wx : World}, St w wx g m ob kd ky ta (.slice at' xt ct) X' → Q0 .normal ⟨#[s0, .int .i64 now, s2, s3, z4, .pointer (some ⟨g, 0, none⟩), .slice at' xt ct, s7, .pointer (some ⟨ob, 0, none⟩), s9, s10, s11, s12, s13, s14, s15, s16, s17, .slice ad' dn cd, .int .i64 dn, s20, s21, s22, s23, s24, s25, s26, s27, s28, s29, s30, s31, s32, s33, s34, s35, s36, s37, s38, s39, s40, s41, s42, s43, s44, s45, s46, s47, s48, s49, s50, s51, s52, s53, s54, s55, s56, s57, s58, s59, s60, s61, s62, s63, s64, s65, s66, s67, s68, s69, s70, s71, s72, s73, s74, s75, s76, s77, s78, s79, s80, s81, s82, s83, s84, s85, s86, s87, s88, s89, s90, s91, s92, s93, s94, s95, s96, s97, s98, s99, s100, s101, s102, s103, s104, s105, s106, s107, s108, s109, s110, s111, s112, s113, s114, s115, s116, s117, s118, s119, s120, s121, s122, s123, s124, s125, s126, s127, s128, s129, s130, s131, s132, s133, s134, s135, s136, s137, s138, s139, s140, s141, s142, s143, s144, s145, z146, z147, z148, z149, z150, z151, z152, z153, z154, z155, z156, z157, z158, z159, z160, z161, z162, z163, z164, z165, z166, z167, z168, z169, z170, z171, z172, z173, z174, z175, z176, s177, s178, s179, s180, s181, s182, s183, s184, s185, s186, s187, s188, s189, s190, s191, s192, s193, s194, s195, s196, s197, s198, s199, s200, s201, s202, s203, s204, s205, s206, s207, s208, s209, s210, s211, s212, s213, s214, s215, s216, s217, s218, s219, s220, s221, s222, s223, s224], []⟩ wx)) :
    Code.wp Try.prog doesB5 Q0 ⟨#[s0, .int .i64 now, s2, s3, s4, .pointer (some ⟨g, 0, none⟩), .slice at' xt ct, s7, .pointer (some ⟨ob, 0, none⟩), s9, s10, s11, s12, s13, s14, s15, s16, s17, .slice ad' dn cd, .int .i64 0, s20, s21, s22, s23, s24, s25, s26, s27, s28, s29, s30, s31, s32, s33, s34, s35, s36, s37, s38, s39, s40, s41, s42, s43, s44, s45, s46, s47, s48, s49, s50, s51, s52, s53, s54, s55, s56, s57, s58, s59, s60, s61, s62, s63, s64, s65, s66, s67, s68, s69, s70, s71, s72, s73, s74, s75, s76, s77, s78, s79, s80, s81, s82, s83, s84, s85, s86, s87, s88, s89, s90, s91, s92, s93, s94, s95, s96, s97, s98, s99, s100, s101, s102, s103, s104, s105, s106, s107, s108, s109, s110, s111, s112, s113, s114, s115, s116, s117, s118, s119, s120, s121, s122, s123, s124, s125, s126, s127, s128, s129, s130, s131, s132, s133, s134, s135, s136, s137, s138, s139, s140, s141, s142, s143, s144, s145, s146, s147, s148, s149, s150, s151, s152, s153, s154, s155, s156, s157, s158, s159, s160, s161, s162, s163, s164, s165, s166, s167, s168, s169, s170, s171, s172, s173, s174, s175, s176, s177, s178, s179, s180, s181, s182, s183, s184, s185, s186, s187, s188, s189, s190, s191, s192, s193, s194, s195, s196, s197, s198, s199, s200, s201, s202, s203, s204, s205, s206, s207, s208, s209, s210, s211, s212, s213, s214, s215, s216, s217, s218, s219, s220, s221, s222, s223, s224], []⟩ w8 := by
  conv => arg 2; whnf
  go_wp2_with fail
  go_loopw [19] (fun i wr' => ∃ j : Nat, (j : Int) ≤ dn ∧ i = .int .i64 j ∧ St w wr' g m ob kd ky ta (.slice at' xt ct) X' ∧ RowD wr' rb ad' D) (fun i _ => dn - (intOf i).toNat)
  case atStart => exact ⟨0, by omega, rfl, HS8.out, HR.out⟩
  case round =>
    obtain ⟨j, hj2, rfl, hst, hrw⟩ := hrel
    clear HR HS8
    by_cases hjd : (j : Int) < dn
    · obtain ⟨p, hp⟩ : ∃ p, D[j]? = some p := ⟨D[j]'(by have := HDN.out; omega), List.getElem?_eq_getElem _⟩
      obtain ⟨hpx, hpn⟩ := HD1.out j p hp
      obtain ⟨ax, rfl, d1, d2⟩ := hst.sl.at hpx
      obtain ⟨g', rfl, -, d3⟩ := hrw j p hp
      have HS9 := Lib.hid hst; have HR9 := Lib.hid hrw
      obtain ⟨p1, p2⟩ := p
      dsimp only at d1 d2 d3 hpn
      have hjx : (j : Int) < xt := by omega
      have hgd : decide ((dn : Int) ≤ (j : Int)) = false := decide_eq_false (by omega)
      have hgd2 : decide (dn ≤ j) = false := decide_eq_false (by omega)
      clear hst hrw hp hpx
      go_wp2_with fail
      go_quiet (fail)
      go_wp2_with fail
      go_roundw
      case rel => exact ⟨j + 1, by omega, by go_num, HS9.out.drewN _, HR9.out.fr (S := fun _ => False) ((Fr.refl _ _).drewN _) (fun _ _ h => h)⟩
      case measure => simp [intOf]; omega
    · obtain rfl : dn = j := by omega
      have HSL := Lib.hid hst
      have hcase : dn = xt ∨ ((dn : Int) < xt ∧ ∃ p1 p2 ax, at' = some ax ∧ ¬ p2 ≤ now ∧ wr.cell? (ax.add (dn * 2)) = some (.int .i64 p1) ∧ wr.cell? ⟨(ax.add (dn * 2)).block, (ax.add (dn * 2)).off + 1, none⟩ = some (.int .i64 p2)) := by
        cases hx : X'[dn]? with
        | none => exact .inl (by have := List.getElem?_eq_none_iff.1 hx; have := HXT.out; omega)
        | some p =>
          obtain ⟨ax, e, d1, d2⟩ := hst.sl.at hx
          exact .inr ⟨by have := (List.getElem?_eq_some_iff.1 hx).1; have := HXT.out; omega, p.1, p.2, ax, e, by have := HD2.out p hx; omega, d1, d2⟩
      clear hst hrw
      rcases hcase with rfl | ⟨hlt, p1, p2, ax, rfl, hnp, d1, d2⟩
      · go_wp2_with fail
        exact HQ.out HSL.out
      · go_wp2_with fail
        exact HQ.out HSL.out
set_option maxRecDepth 1000000 in
set_option maxHeartbeats 4000000 in
theorem doesR0 {s0 s2 s3 s4 s7 s9 s10 s11 s12 s13 s14 s15 s16 s17 s22 s23 s24 s25 s26 s27 s28 s29 s30 s31 s32 s33 s34 s35 s36 s37 s38 s39 s40 s41 s42 s43 s44 s45 s46 s47 s48 s49 s50 s51 s52 s53 s54 s55 s56 s57 s58 s59 s60 s61 s62 s63 s64 s65 s66 s67 s68 s69 s70 s71 s72 s73 s74 s75 s76 s77 s78 s79 s80 s81 s82 s83 s84 s85 s86 s87 s88 s89 s90 s91 s92 s93 s94 s95 s96 s97 s98 s99 s100 s101 s102 s103 s104 s105 s106 s107 s108 s109 s110 s111 s112 s113 s114 s115 s116 s117 s118 s119 s120 s121 s122 s123 s124 s125 s126 s127 s128 s129 s130 s131 s132 s133 s134 s135 s136 s137 s138 s139 s140 s141 s142 s143 s144 s145 s146 s147 s148 s149 s150 s151 s152 s153 s154 s155 s156 s157 s158 s159 s160 s161 s162 s163 s164 s165 s166 s167 s168 s169 s170 s171 s172 s173 s174 s175 s176 s177 s178 s179 s180 s181 s182 s183 s184 s185 s186 s187 s188 s189 s190 s191 s192 s193 s194 s195 s196 s197 s198 s199 s200 s201 s202 s203 s204 s205 s206 s207 s208 s209 s210 s211 s212 s213 s214 s215 s216 s217 s218 s219 s220 s221 s222 s223 s224 : Value} {Q0 : Exit → Act → World → Prop} {w w8 : World} {g m ob xt ct dn cd : Nat} {at' ad' : Option Addr} {now kd ky ta : Int} {X' : List KV}
    (HS9 : Hid (St w w8 g m ob kd ky ta (.slice at' xt ct) X')) (hxt : (xt : Int) ≤ 1000) (HXT : Hid (X'.length = xt)) (h0 : xt = 0)
    (HQ : Hid (∀ {z182 z183 z184 z185 z186 z187 z188 z189 z190 z191 z192 z193 z194 z195 z196 z197 z198 z199 z200 z201 z202 z203 z204 z205 z206 z207 z208 z209 z210 z211 z212 z213 z214 z215 z216 z217 z218 z219 z220 z221 z222 z223 : Value} {wx : World}, St w wx g m ob kd ky ta (.slice at' xt ct) X' → Q0 .normal ⟨#[s0, .int .i64 now, s2, s3, s4, .pointer (some ⟨g, 0, none⟩), .slice at' xt ct, s7, .pointer (some ⟨ob, 0, none⟩), s9, s10, s11, s12, s13, s14, s15, s16, s17, .slice ad' dn cd, .int .i64 dn, .int .i64 0, .bool false, s22, s23, s24, s25, s26, s27, s28, s29, s30, s31, s32, s33, s34, s35, s36, s37, s38, s39, s40, s41, s42, s43, s44, s45, s46, s47, s48, s49, s50, s51, s52, s53, s54, s55, s56, s57, s58, s59, s60, s61, s62, s63, s64, s65, s66, s67, s68, s69, s70, s71, s72, s73, s74, s75, s76, s77, s78, s79, s80, s81, s82, s83, s84, s85, s86, s87, s88, s89, s90, s91, s92, s93, s94, s95, s96, s97, s98, s99, s100, s101, s102, s103, s104, s105, s106, s107, s108, s109, s110, s111, s112, s113, s114, s115, s116, s117, s118, s119, s120, s121, s122, s123, s124, s125, s126, s127, s128, s129, s130, s131, s132, s133, s134, s135, s136, s137, s138, s139, s140, s141, s142, s143, s144, s145, s146, s147, s148, s149, s150, s151, s152, s153, s154, s155, s156, s157, s158, s159, s160, s161, s162, s163, s164, s165, s166, s167, s168, s169, s170, s171, s172, s173, s174, s175, s176, s177, s178, s179, s180, s181, z182, z183, z184, z185, z186, z187, z188, z189, z190, z191, z192, z193, z194, z195, z196, z197, z198, z199, z200, z201, z202, z203, z204, z205, z206, z207, z208, z209, z210, z211, z212, z213, z214, z215, z216, z217, z218, z219, z220, z221, z222, z223, .bool false], []⟩ wx)) :
    Code.wp Try.prog doesR41 Q0 ⟨#[s0, .int .i64 now, s2, s3, s4, .pointer (some ⟨g, 0, none⟩), .slice at' xt ct, s7, .pointer (some ⟨ob, 0, none⟩), s9, s10, s11, s12, s13, s14, s15, s16, s17, .slice ad' dn cd, .int .i64 dn, .int .i64 0, .bool false, s22, s23, s24, s25, s26, s27, s28, s29, s30, s31, s32, s33, s34, s35, s36, s37, s38, s39, s40, s41, s42, s43, s44, s45, s46, s47, s48, s49, s50, s51, s52, s53, s54, s55, s56, s57, s58, s59, s60, s61, s62, s63, s64, s65, s66, s67, s68, s69, s70, s71, s72, s73, s74, s75, s76, s77, s78, s79, s80, s81, s82, s83, s84, s85, s86, s87, s88, s89, s90, s91, s92, s93, s94, s95, s96, s97, s98, s99, s100, s101, s102, s103, s104, s105, s106, s107, s108, s109, s110, s111, s112, s113, s114, s115, s116, s117, s118, s119, s120, s121, s122, s123, s124, s125, s126, s127, s128, s129, s130, s131, s132, s133, s134, s135, s136, s137, s138, s139, s140, s141, s142, s143, s144, s145, s146, s147, s148, s149, s150, s151, s152, s153, s154, s155, s156, s157, s158, s159, s160, s161, s162, s163, s164, s165, s166, s167, s168, s169, s170, s171, s172, s173, s174, s175, s176, s177, s178, s179, s180, s181, s182, s183, s184, s185, s186, s187, s188, s189, s190, s191, s192, s193, s194, s195, s196, s197, s198, s199, s200, s201, s202, s203, s204, s205, s206, s207, s208, s209, s210, s211, s212, s213, s214, s215, s216, s217, s218, s219, s220, s221, s222, s223, s224], []⟩ w8 := by
  conv => arg 2; whnf
  have hle : Calls Try.prog 15 #[.pointer (some ⟨g, 0, none⟩)] w8 fun e w' => e = .returned (.int .i64 xt) ∧ w8 = w' := by
    have := xLen w8 g m X' HS9.out.tx
    rwa [HXT.out] at this
  have HLE := Lib.hid hle
  have HWK := Lib.hid (bWalks g m X' w8 (m + 1) (.slice at' xt ct) HS9.out.tx (by have := HXT.out; omega) HS9.out.sl)
  clear hle
  subst h0
  go_wp2_with (first
    | (go_at_call 15; refine HLE.out.mono ?_; rintro e w10 ⟨rfl, rfl⟩)
    | (go_at_call 22; refine HWK.out.mono ?_; rintro e w11 ⟨rfl, hb11⟩; have HS11 := Lib.hid (HS9.out.still (Fr.below hb11)); clear hb11))
  exact HQ.out HS11.out
set_option maxRecDepth 1000000 in
set_option maxHeartbeats 4000000 in
theorem doesR1 {s0 s2 s3 s4 s7 s9 s10 s11 s12 s13 s14 s15 s16 s17 s22 s23 s24 s25 s26 s27 s28 s29 s30 s31 s32 s33 s34 s35 s36 s37 s38 s39 s40 s41 s42 s43 s44 s45 s46 s47 s48 s49 s50 s51 s52 s53 s54 s55 s56 s57 s58 s59 s60 s61 s62 s63 s64 s65 s66 s67 s68 s69 s70 s71 s72 s73 s74 s75 s76 s77 s78 s79 s80 s81 s82 s83 s84 s85 s86 s87 s88 s89 s90 s91 s92 s93 s94 s95 s96 s97 s98 s99 s100 s101 s102 s103 s104 s105 s106 s107 s108 s109 s110 s111 s112 s113 s114 s115 s116 s117 s118 s119 s120 s121 s122 s123 s124 s125 s126 s127 s128 s129 s130 s131 s132 s133 s134 s135 s136 s137 s138 s139 s140 s141 s142 s143 s144 s145 s146 s147 s148 s149 s150 s151 s152 s153 s154 s155 s156 s157 s158 s159 s160 s161 s162 s163 s164 s165 s166 s167 s168 s169 s170 s171 s172 s173 s174 s175 s176 s177 s178 s179 s180 s181 s182 s183 s184 s185 s186 s187 s188 s189 s190 s191 s192 s193 s194 s195 s196 s197 s198 s199 s200 s201 s202 s203 s204 s205 s206 s207 s208 s209 s210 s211 s212 s213 s214 s215 s216 s217 s218 s219 s220 s221 s222 s223 s224 : Value} {Q0 : Exit → Act → World → Prop} {w w8 : World} {g m ob xt ct dn cd : Nat} {at' ad' : Option Addr} {now kd ky ta y2 : Int} {X' : List KV}
    (HS9 : Hid (St w w8 g m ob kd ky ta (.slice at' xt ct) X')) (hxt : (xt : Int) ≤ 1000) (HXT : Hid (X'.length = xt)) (hx0 : (0 : Int) < xt) (hy : ∃ ax y1, at' = some ax ∧ w8.cell? ax = some (.int .i64 y1) ∧ w8.cell? ⟨ax.block, ax.off + 1, none⟩ = some (.int .i64 y2))
    (HQ : Hid (∀ {z182 z183 z184 z185 z186 z187 z188 z189 z190 z191 z192 z193 z194 z195 z196 z197 z198 z199 z200 z201 z202 z203 z204 z205 z206 z207 z208 z209 z210 z211 z212 z213 z214 z215 z216 z217 z218 z219 z220 z221 z222 z223 : Value} {wx : World}, St w wx g m ob kd ky ta (.slice at' xt ct) X' → Q0 .normal ⟨#[s0, .int .i64 now, s2, s3, s4, .pointer (some ⟨g, 0, none⟩), .slice at' xt ct, s7, .pointer (some ⟨ob, 0, none⟩), s9, s10, s11, s12, s13, s14, s15, s16, s17, .slice ad' dn cd, .int .i64 dn, .int .i64 y2, .bool true, s22, s23, s24, s25, s26, s27, s28, s29, s30, s31, s32, s33, s34, s35, s36, s37, s38, s39, s40, s41, s42, s43, s44, s45, s46, s47, s48, s49, s50, s51, s52, s53, s54, s55, s56, s57, s58, s59, s60, s61, s62, s63, s64, s65, s66, s67, s68, s69, s70, s71, s72, s73, s74, s75, s76, s77, s78, s79, s80, s81, s82, s83, s84, s85, s86, s87, s88, s89, s90, s91, s92, s93, s94, s95, s96, s97, s98, s99, s100, s101, s102, s103, s104, s105, s106, s107, s108, s109, s110, s111, s112, s113, s114, s115, s116, s117, s118, s119, s120, s121, s122, s123, s124, s125, s126, s127, s128, s129, s130, s131, s132, s133, s134, s135, s136, s137, s138, s139, s140, s141, s142, s143, s144, s145, s146, s147, s148, s149, s150, s151, s152, s153, s154, s155, s156, s157, s158, s159, s160, s161, s162, s163, s164, s165, s166, s167, s168, s169, s170, s171, s172, s173, s174, s175, s176, s177, s178, s179, s180, s181, z182, z183, z184, z185, z186, z187, z188, z189, z190, z191, z192, z193, z194, z195, z196, z197, z198, z199, z200, z201, z202, z203, z204, z205, z206, z207, z208, z209, z210, z211, z212, z213, z214, z215, z216, z217, z218, z219, z220, z221, z222, z223, .bool false], []⟩ wx)) :
    Code.wp Try.prog doesR41 Q0 ⟨#[s0, .int .i64 now, s2, s3, s4, .pointer (some ⟨g, 0, none⟩), .slice at' xt ct, s7, .pointer (some ⟨ob, 0, none⟩), s9, s10, s11, s12, s13, s14, s15, s16, s17, .slice ad' dn cd, .int .i64 dn, .int .i64 y2, .bool true, s22, s23, s24, s25, s26, s27, s28, s29, s30, s31, s32, s33, s34, s35, s36, s37, s38, s39, s40, s41, s42, s43, s44, s45, s46, s47, s48, s49, s50, s51, s52, s53, s54, s55, s56, s57, s58, s59, s60, s61, s62, s63, s64, s65, s66, s67, s68, s69, s70, s71, s72, s73, s74, s75, s76, s77, s78, s79, s80, s81, s82, s83, s84, s85, s86, s87, s88, s89, s90, s91, s92, s93, s94, s95, s96, s97, s98, s99, s100, s101, s102, s103, s104, s105, s106, s107, s108, s109, s110, s111, s112, s113, s114, s115, s116, s117, s118, s119, s120, s121, s122, s123, s124, s125, s126, s127, s128, s129, s130, s131, s132, s133, s134, s135, s136, s137, s138, s139, s140, s141, s142, s143, s144, s145, s146, s147, s148, s149, s150, s151, s152, s153, s154, s155, s156, s157, s158, s159, s160, s161, s162, s163, s164, s165, s166, s167, s168, s169, s170, s171, s172, s173, s174, s175, s176, s177, s178, s179, s180, s181, s182, s183, s184, s185, s186, s187, s188, s189, s190, s191, s192, s193, s194, s195, s196, s197, s198, s199, s200, s201, s202, s203, s204, s205, s206, s207, s208, s209, s210, s211, s212, s213, s214, s215, s216, s217, s218, s219, s220, s221, s222, s223, s224], []⟩ w8 := by
  conv => arg 2; whnf
  have hle : Calls Try.prog 15 #[.pointer (some ⟨g, 0, none⟩)] w8 fun e w' => e = .returned (.int .i64 xt) ∧ w8 = w' := by
    have := xLen w8 g m X' HS9.out.tx
    rwa [HXT.out] at this
  have HLE := Lib.hid hle
  have HWK := Lib.hid (bWalks g m X' w8 (m + 1) (.slice at' xt ct) HS9.out.tx (by have := HXT.out; omega) HS9.out.sl)
  clear hle
  obtain ⟨ax, y1, rfl, d1, d2⟩ := hy
  have hx1 : 0 < xt := by omega
  go_wp2_with (first
    | (go_at_call 15; refine HLE.out.mono ?_; rintro e w10 ⟨rfl, rfl⟩)
    | (go_at_call 22; refine HWK.out.mono ?_; rintro e w11 ⟨rfl, hb11⟩; have HS11 := Lib.hid (HS9.out.still (Fr.below hb11)); clear hb11))
  exact HQ.out HS11.out
end Go.Proofs.Ytjkhheolklnmaaa
