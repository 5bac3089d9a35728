/-
  What the pieces of AlertNight's walk share.
-/
import Derived.Test.YtmpbhngjkbidcaaGreatDoorW26
import Derived.Test.YtmpbhngjkbidcaaGreatDoorW23
import Derived.Deep.RegionHeld3
namespace Go.Proofs.YtmpbhngjkbidcaaGreatDoor
open Go.RowKit Al

def niHead : Code → Option Nat
  | .region id _ _ => some id
  | .seq a _ => niHead a
  | .block _ c => niHead c
  | .scope c => niHead c
  | _ => none
/-- The code from the statement on that begins with region n. -/
def niFrom (n : Nat) : Code → Option Code
  | .seq a b => if niHead a = some n then some (.seq a b) else match niFrom n b with
    | some c => some c
    | none => niFrom n a
  | .block _ c => niFrom n c
  | .scope c => niFrom n c
  | .loop c => niFrom n c
  | _ => none
noncomputable def niC (n : Nat) : Code := ((Tryz.f3.body.bind (niFrom n)).getD .skip)
structure NiE (W : World) (lo : Nat) (K : Option Addr) (kc : Nat) (Z : Option Addr) (zc : Nat) : Prop where
  k : Sl W lo 2 K 3 kc (keyCells ringK)
  z : Sl W lo 1 Z 3 zc (ints ringS)
  r : Rdy W
  lo : lo ≤ W.heap.size
set_option maxRecDepth 100000 in
/-- What follows a round. -/
def NiNext (X0 : World) (Kc : Act → World → Prop) (lo bb k xb qb qo ll qc : Nat) (K : Option Addr) (kc : Nat) (Z : Option Addr) (zc : Nat) (CL : List Int) (CA : Option Addr) (cc : Nat) (ev : ByteArray) (u0 u2 u4 u7 u10 u11 u22 u23 u24 u25 u26 u27 u28 u29 u30 u31 u32 u33 u34 u35 u36 u37 u38 u39 u40 u41 u42 u43 u44 u45 u46 u47 u48 u49 u50 u51 u52 u53 u54 u55 u56 u57 u58 u265 : Value) : Prop :=
  ∀ (v13 v15 v16 v17 v18 v19 v20 v21 v59 v60 v61 v62 v63 v64 v65 v66 v67 v68 v69 v70 v71 v72 v73 v74 v75 v76 v77 v78 v79 v80 v81 v82 v83 v84 v85 v86 v87 v88 v89 v90 v91 v92 v93 v94 v95 v96 v97 v98 v99 v100 v101 v102 v103 v104 v105 v106 v107 v108 v109 v110 v111 v112 v113 v114 v115 v116 v117 v118 v119 v120 v121 v122 v123 v124 v125 v126 v127 v128 v129 v130 v131 v132 v133 v134 v135 v136 v137 v138 v139 v140 v141 v142 v143 v144 v145 v146 v147 v148 v149 v150 v151 v152 v153 v154 v155 v156 v157 v158 v159 v160 v161 v162 v163 v164 v165 v166 v167 v168 v169 v170 v171 v172 v173 v174 v175 v176 v177 v178 v179 v180 v181 v182 v183 v184 v185 v186 v187 v188 v189 v190 v191 v192 v193 v194 v195 v196 v197 v198 v199 v200 v201 v202 v203 v204 v205 v206 v207 v208 v209 v210 v211 v212 v213 v214 v215 v216 v217 v218 v219 v220 v221 v222 v223 v224 v225 v226 v227 v228 v229 v230 v231 v232 v233 v234 v235 v236 v237 v238 v239 v240 v241 v242 v243 v244 v245 v246 v247 v248 v249 v250 v251 v252 v253 v254 v255 v256 v257 v258 v259 v260 v261 v262 v263 v264 : Value) (W : World) (T3 : Nat → Prop) (ns3 : List Ntc), Bd W T3 bb ringK 2 ns3 → (∀ j, T3 j → lo ≤ j ∧ j < W.heap.size) → NBoard (k + 1) ns3 → Below lo X0 W → Kc ⟨#[u0, .pointer (some ⟨xb, 0, none⟩), u2, .slice (some ⟨qb, qo, none⟩) ll qc, u4, .slice K 3 kc, .slice Z 3 zc, u7, .pointer (some ⟨bb, 0, none⟩), .int .i64 (k : Int), u10, u11, .slice CA CL.length cc, v13, .string ev, v15, v16, v17, v18, v19, v20, v21, u22, u23, u24, u25, u26, u27, u28, u29, u30, u31, u32, u33, u34, u35, u36, u37, u38, u39, u40, u41, u42, u43, u44, u45, u46, u47, u48, u49, u50, u51, u52, u53, u54, u55, u56, u57, u58, v59, v60, v61, v62, v63, v64, v65, v66, v67, v68, v69, v70, v71, v72, v73, v74, v75, v76, v77, v78, v79, v80, v81, v82, v83, v84, v85, v86, v87, v88, v89, v90, v91, v92, v93, v94, v95, v96, v97, v98, v99, v100, v101, v102, v103, v104, v105, v106, v107, v108, v109, v110, v111, v112, v113, v114, v115, v116, v117, v118, v119, v120, v121, v122, v123, v124, v125, v126, v127, v128, v129, v130, v131, v132, v133, v134, v135, v136, v137, v138, v139, v140, v141, v142, v143, v144, v145, v146, v147, v148, v149, v150, v151, v152, v153, v154, v155, v156, v157, v158, v159, v160, v161, v162, v163, v164, v165, v166, v167, v168, v169, v170, v171, v172, v173, v174, v175, v176, v177, v178, v179, v180, v181, v182, v183, v184, v185, v186, v187, v188, v189, v190, v191, v192, v193, v194, v195, v196, v197, v198, v199, v200, v201, v202, v203, v204, v205, v206, v207, v208, v209, v210, v211, v212, v213, v214, v215, v216, v217, v218, v219, v220, v221, v222, v223, v224, v225, v226, v227, v228, v229, v230, v231, v232, v233, v234, v235, v236, v237, v238, v239, v240, v241, v242, v243, v244, v245, v246, v247, v248, v249, v250, v251, v252, v253, v254, v255, v256, v257, v258, v259, v260, v261, v262, v263, v264, u265], []⟩ W
/-- What lies still while the board grows. -/
structure NiEnv (W : World) (lo xb : Nat) (a b : List Trg) (A B : Option Addr) (ca cb : Nat) (live window step limit g slack : Int) (L : List NSi) (N : Option Addr) (nc : Nat) (l : List Cnd) (Q : Option Addr) (qc : Nat) (K : Option Addr) (kc : Nat) (Z : Option Addr) (zc : Nat) : Prop where
  x0 : W.cell? ⟨xb, 0, none⟩ = some (.slice A a.length ca)
  x1 : W.cell? ⟨xb, 1, none⟩ = some (.slice B b.length cb)
  x5 : W.cell? ⟨xb, 5, none⟩ = some (.int .i64 limit)
  x6 : W.cell? ⟨xb, 6, none⟩ = some (.slice N L.length nc)
  x7 : W.cell? ⟨xb, 7, none⟩ = some (.int .i64 g)
  x8 : W.cell? ⟨xb, 8, none⟩ = some (.int .i64 slack)
  xl : xb < lo
  a : Sl W lo 3 A a.length ca (trCells a)
  b : Sl W lo 3 B b.length cb (trCells b)
  n : Sl W lo 10 N L.length nc (nsCells L)
  l : Sl W lo 5 Q l.length qc (cnCells l)
  k : Sl W lo 2 K 3 kc (keyCells ringK)
  z : Sl W lo 1 Z 3 zc (ints ringS)
  r : Rdy W
  lo : lo ≤ W.heap.size
theorem NiEnv.below {W W' : World} {lo xb : Nat} {a b : List Trg} {A B : Option Addr} {ca cb : Nat} {live window step limit g slack : Int} {L : List NSi} {N : Option Addr} {nc : Nat} {l : List Cnd} {Q : Option Addr} {qc : Nat} {K : Option Addr} {kc : Nat} {Z : Option Addr} {zc : Nat}
    (h : NiEnv W lo xb a b A B ca cb live window step limit g slack L N nc l Q qc K kc Z zc) (hr : Rdy W') (hb : Below lo W W') : NiEnv W' lo xb a b A B ca cb live window step limit g slack L N nc l Q qc K kc Z zc :=
  ⟨(hb.cell (p := ⟨xb, 0, none⟩) h.xl).trans h.x0, (hb.cell (p := ⟨xb, 1, none⟩) h.xl).trans h.x1, (hb.cell (p := ⟨xb, 5, none⟩) h.xl).trans h.x5, (hb.cell (p := ⟨xb, 6, none⟩) h.xl).trans h.x6, (hb.cell (p := ⟨xb, 7, none⟩) h.xl).trans h.x7, (hb.cell (p := ⟨xb, 8, none⟩) h.xl).trans h.x8,
    h.xl, h.a.below hb, h.b.below hb, h.n.below hb, h.l.below hb, h.k.below hb, h.z.below hb, hr, Nat.le_trans h.lo hb.size⟩
theorem NBoard.next {i : Nat} {ns : List Ntc} (h : NBoard i ns) : NBoard (i + 1) ns := ⟨fun x hx => by obtain ⟨j, hj, e⟩ := h.ev x hx; exact ⟨j, by omega, e⟩, by have := h.len; omega⟩
/-- What holds at the head of each round. -/
def NiRel (lo : Nat) (W0 : World) (b : Nat) (n : Nat) (i : Value) (wr : World) : Prop :=
  ∃ (k : Nat) (S : Nat → Prop) (ns : List Ntc), k ≤ n ∧ k ≤ 20 ∧ i = .int .i64 k ∧ Bd wr S b ringK 2 ns ∧ (∀ j, S j → lo ≤ j ∧ j < wr.heap.size) ∧ NBoard k ns ∧ Below lo W0 wr
end Go.Proofs.YtmpbhngjkbidcaaGreatDoor

/-
  AlertNight, a piece of a round of its loop: the alert in force; the withdrawal
-/
namespace Go.Proofs.YtmpbhngjkbidcaaGreatDoor
open Go.RowKit Al

set_option maxRecDepth 100000 in
set_option maxHeartbeats 16000000 in
theorem lni_28 {w X0 w6 : World} {Kc : Act → World → Prop} {Q' : Exit → Act → World → Prop} {lo qb qo bb k ll qc cc kc zc : Nat} {g xn xo : Int} {CL : List Int} {CA K Z : Option Addr} {ev : ByteArray} {S : Nat → Prop} {ns : List Ntc} {n9 ny nq n11 pC pF pW c2 c3 c4 : Nat} {A2 A3 A4 : Option Addr} {cf : Int} {T2 : Nat → Prop} {wv : World} {u0 u2 u4 u7 u10 u11 u15 u16 u20 u21 u22 u23 u24 u25 u26 u27 u28 u29 u30 u31 u32 u33 u34 u35 u36 u37 u38 u39 u40 u41 u42 u43 u44 u45 u46 u47 u48 u49 u50 u51 u52 u53 u54 u55 u56 u57 u58 u59 u60 u61 u62 u63 u64 u65 u66 u67 u68 u69 u70 u71 u72 u73 u74 u75 u76 u77 u78 u79 u80 u81 u82 u83 u84 u85 u86 u87 u88 u89 u90 u91 u92 u93 u94 u95 u96 u97 u98 u99 u100 u101 u102 u103 u104 u105 u106 u107 u108 u109 u110 u111 u112 u113 u114 u115 u116 u117 u118 u119 u120 u121 u122 u123 u124 u125 u126 u127 u128 u129 u130 u131 u132 u133 u134 u135 u136 u137 u138 u139 u140 u141 u142 u143 u144 u145 u146 u147 u148 u149 u150 u151 u152 u153 u154 u155 u156 u157 u158 u159 u160 u161 u162 u163 u164 u165 u166 u167 u168 u169 u170 u171 u172 u173 u174 u175 u176 u177 u178 u179 u180 u181 u182 u183 u184 u185 u186 u187 u188 u189 u190 u191 u192 u193 u194 u195 u196 u197 u198 u199 u200 u201 u202 u203 u204 u205 u206 u207 u208 u209 u210 u211 u212 u213 u214 u215 u216 u217 u218 u219 u220 u221 u222 u223 u224 u225 u226 u227 u228 u229 u230 u231 u232 u233 u234 u235 u236 u237 u238 u239 u240 u241 u242 u243 u244 u245 u246 u247 u248 u249 u250 u251 u252 u253 u254 u255 u256 u257 u258 u259 u260 u261 u262 u263 u264 u265 : Value} (hEZ : ∀ W, Below lo X0 W → NiE W lo K kc Z zc) (hNK : NightOk xn xo g CL) (hEN : ev.data.toList = evN k) (hES : ev.size ≤ maxLen) (h20 : k < 20) (hNB : NBoard k ns) (hS : ∀ j, S j → lo ≤ j ∧ j < w6.heap.size) (hlo6 : lo ≤ w6.heap.size) (hK : NiNext X0 Kc lo bb k w.heap.size qb qo ll qc K kc Z zc CL CA cc ev u0 u2 u4 u7 u10 u11 u22 u23 u24 u25 u26 u27 u28 u29 u30 u31 u32 u33 u34 u35 u36 u37 u38 u39 u40 u41 u42 u43 u44 u45 u46 u47 u48 u49 u50 u51 u52 u53 u54 u55 u56 u57 u58 u265) (hcf : CL.take 1 = [cf]) (hzx : w6.heap.size ≤ n9) (hzy : n9 ≤ ny) (hzq : ny ≤ nq) (_hz11 : nq ≤ n11) (_hzv : n11 ≤ wv.heap.size) (hT2 : ∀ i, T2 i → (S i ∨ nq ≤ i) ∧ i < n11) (hBDv : Bd wv T2 bb ringK 2 ((ns ++ [rN (nA ev xn xo g CL)]) ++ [rN (nC (nA ev xn xo g CL) [cf])])) (hNFv : Nb wv n11 wv.heap.size pF (nC (nA ev xn xo g CL) [cf]) A4 c4) (hNCv : Nb wv n9 ny pC (nC (nA ev xn xo g CL) [cf]) A2 c2) (hNWv : Nb wv ny nq pW (nW (nC (nA ev xn xo g CL) [cf])) A3 c3) (hLV : Below lo X0 wv) (hlov : lo ≤ wv.heap.size) :
    Code.wp Tryz.prog (niC 28) (Exit.inBlock 1 (Exit.then Kc Q')) ⟨#[u0, .pointer (some ⟨w.heap.size, 0, none⟩), u2, .slice (some ⟨qb, qo, none⟩) ll qc, u4, .slice K 3 kc, .slice Z 3 zc, u7, .pointer (some ⟨bb, 0, none⟩), .int .i64 (k : Int), u10, u11, .slice CA CL.length cc, .int .i64 0, .string ev, u15, u16, .pointer (some ⟨pC, 0, none⟩), .pointer (some ⟨pW, 0, none⟩), .pointer (some ⟨pF, 0, none⟩), u20, u21, u22, u23, u24, u25, u26, u27, u28, u29, u30, u31, u32, u33, u34, u35, u36, u37, u38, u39, u40, u41, u42, u43, u44, u45, u46, u47, u48, u49, u50, u51, u52, u53, u54, u55, u56, u57, u58, u59, u60, u61, u62, u63, u64, u65, u66, u67, u68, u69, u70, u71, u72, u73, u74, u75, u76, u77, u78, u79, u80, u81, u82, u83, u84, u85, u86, u87, u88, u89, u90, u91, u92, u93, u94, u95, u96, u97, u98, u99, u100, u101, u102, u103, u104, u105, u106, u107, u108, u109, u110, u111, u112, u113, u114, u115, u116, u117, u118, u119, u120, u121, u122, u123, u124, u125, u126, u127, u128, u129, u130, u131, u132, u133, u134, u135, u136, u137, u138, u139, u140, u141, u142, u143, u144, u145, u146, u147, u148, u149, u150, u151, u152, u153, u154, u155, u156, u157, u158, u159, u160, u161, u162, u163, u164, u165, u166, u167, u168, u169, u170, u171, u172, u173, u174, u175, u176, u177, u178, u179, u180, u181, u182, u183, u184, u185, u186, u187, u188, u189, u190, u191, u192, u193, u194, u195, u196, u197, u198, u199, u200, u201, u202, u203, u204, u205, u206, u207, u208, u209, u210, u211, u212, u213, u214, u215, u216, u217, u218, u219, u220, u221, u222, u223, u224, u225, u226, u227, u228, u229, u230, u231, u232, u233, u234, u235, u236, u237, u238, u239, u240, u241, u242, u243, u244, u245, u246, u247, u248, u249, u250, u251, u252, u253, u254, u255, u256, u257, u258, u259, u260, u261, u262, u263, u264, u265], []⟩ wv := by
  have HEZ := Lib.hid hEZ
  have HNK := Lib.hid hNK
  have HEN := Lib.hid hEN
  have HES := Lib.hid hES
  have HNB := Lib.hid hNB
  have HS := Lib.hid hS
  have HKK := Lib.hid hK
  have HT2 := Lib.hid hT2
  have HBDv := Lib.hid hBDv
  have HNFv := Lib.hid hNFv
  have HNCv := Lib.hid hNCv
  have HNWv := Lib.hid hNWv
  have HLV := Lib.hid hLV
  clear hEZ hNK hEN hES hNB hS hK hT2 hBDv hNFv hNCv hNWv hLV
  have HRX : Hid (∀ W, Below lo X0 W → Rdy W ∧ True) := fun W hW => ⟨(HEZ.out W hW).r, trivial⟩
  conv => arg 2; whnf
  try dsimp only
  have hloq : lo ≤ nq := by omega
  have HSY := Lib.hid (night_says HNK.out HEN.out h20 HNB.out hcf)
  obtain ⟨e0, e1, e2, e3, e4, e5, e6, e7, e8⟩ := (HNCv.out).cells
  simp only [nC, nA] at e0 e1 e2 e3 e4 e5 e6 e7 e8
  obtain ⟨d0, d1, d2, d3, d4, d5, d6, d7, d8⟩ := (HNFv.out).cells
  simp only [nC, nA] at d0 d1 d2 d3 d4 d5 d6 d7 d8
  have hpc2 := HNCv.out.p3
  have hpf := HNFv.out.p3
  go_wp2_with fail
  refine (same_is (nC (nA ev xn xo g CL) [cf]) (nC (nA ev xn xo g CL) [cf]) A4 c4 A2 c2 _ HNFv.out.ain HNCv.out.ain true (sameB_refl _)).mono ?_
  rintro e w13 ⟨rfl, hb⟩
  clear d0 d1 d2 d3 d4 d5 d6 d7 d8 e0 e1 e2 e3 e4 e5 e6 e7 e8
  have hs13 := hb.size
  have HLC : Hid (Below lo X0 w13) := HLV.out.trans (hb.mono hlov)
  have HEC := Lib.hid (HEZ.out _ HLC.out)
  have HNWc := Lib.hid (HNWv.out.below hb)
  have HBDc := Lib.hid (HBDv.out.below hb)
  clear hb HNWv HNCv HNFv HBDv
  obtain ⟨e0, e1, e2, e3, e4, e5, e6, e7, e8⟩ := (HNWc.out).cells
  simp only [nW, nC, nA] at e0 e1 e2 e3 e4 e5 e6 e7 e8
  have hpw := HNWc.out.p3
  go_wp2_with fail
  refine (npost_ T2 bb ((ns ++ [rN (nA ev xn xo g CL)]) ++ [rN (nC (nA ev xn xo g CL) [cf])]) (nW (nC (nA ev xn xo g CL) [cf])) A3 c3 K kc Z zc _ HBDc.out (HEC.out.k.more HEC.out.lo) (HEC.out.z.more HEC.out.lo) HNWc.out.ain HSY.out.okd (HNWc.out.al.mono (fun i hi ht => by rcases (HT2.out i ht).1 with hs | hs; exact absurd (HS.out i hs).2 (by omega); omega)) HEC.out.r HSY.out.p3).mono ?_
  rintro e w14 ⟨rfl, hbd, hkp⟩
  clear e0 e1 e2 e3 e4 e5 e6 e7 e8
  have hs14 := hkp.size
  have HLD : Hid (Below lo X0 w14) := HLC.out.trans (hkp.below HEC.out.lo (fun i hi => (HT2.out i hi).1.elim (fun h => (HS.out i h).1) (fun h => Nat.le_trans hloq h)))
  obtain ⟨T3, hT3⟩ : ∃ T : Nat → Prop, (fun i => (T2 i ∨ w13.heap.size ≤ i) ∧ i < w14.heap.size) = T := ⟨_, rfl⟩
  rw [hT3] at hbd
  have HT3 : Hid (∀ i, T3 i → lo ≤ i ∧ i < w14.heap.size) := fun i hi => by
    rw [← hT3] at hi
    exact ⟨hi.1.elim (fun h => (HT2.out i h).1.elim (fun h => (HS.out i h).1) (fun h => Nat.le_trans hloq h)) (fun h => Nat.le_trans HEC.out.lo h), hi.2⟩
  have HBDd := Lib.hid hbd
  have hl14 : lo ≤ w14.heap.size := Nat.le_trans HEC.out.lo hs14
  clear hbd hkp hT3 HNWc HEC HBDc
  go_wp2_with fail
  refine (Force_ T3 bb ringK 2 (((ns ++ [rN (nA ev xn xo g CL)]) ++ [rN (nC (nA ev xn xo g CL) [cf])]) ++ [rN (nW (nC (nA ev xn xo g CL) [cf]))]) ev _ Al.zero 107 HSY.out.f2 HES.out HBDd.out).mono ?_
  rintro e w15 ⟨A5, c5, rfl, -, hb⟩
  have hs15 := hb.size
  have HBF := Lib.hid hb
  clear hb
  go_wp2_with fail
  have HK3 := HKK.out
  unfold NiNext at HK3
  exact HK3 _ _ _ _ _ _ _ _ _ _ _ _ _ _ _ _ _ _ _ _ _ _ _ _ _ _ _ _ _ _ _ _ _ _ _ _ _ _ _ _ _ _ _ _ _ _ _ _ _ _ _ _ _ _ _ _ _ _ _ _ _ _ _ _ _ _ _ _ _ _ _ _ _ _ _ _ _ _ _ _ _ _ _ _ _ _ _ _ _ _ _ _ _ _ _ _ _ _ _ _ _ _ _ _ _ _ _ _ _ _ _ _ _ _ _ _ _ _ _ _ _ _ _ _ _ _ _ _ _ _ _ _ _ _ _ _ _ _ _ _ _ _ _ _ _ _ _ _ _ _ _ _ _ _ _ _ _ _ _ _ _ _ _ _ _ _ _ _ _ _ _ _ _ _ _ _ _ _ _ _ _ _ _ _ _ _ _ _ _ _ _ _ _ _ _ _ _ _ _ _ _ _ _ _ _ _ _ _ _ _ _ _ _ _ _ T3 _ (HBDd.out.below (HBF.out.alloc hs15 _)) (fun j hj => ⟨(HT3.out j hj).1, by have := (HT3.out j hj).2; simp; omega⟩) HSY.out.nb (HLD.out.trans ((HBF.out.alloc hs15 _).mono hl14))
end Go.Proofs.YtmpbhngjkbidcaaGreatDoor

/-
  AlertNight, a piece of a round of its loop: the withdrawal made; the alert and its follower posted
-/
namespace Go.Proofs.YtmpbhngjkbidcaaGreatDoor
open Go.RowKit Al

set_option maxRecDepth 100000 in
set_option maxHeartbeats 16000000 in
theorem lni_24 {w X0 w6 : World} {Kc : Act → World → Prop} {Q' : Exit → Act → World → Prop} {lo qb qo bb k ll qc cc kc zc : Nat} {g xn xo : Int} {CL : List Int} {CA K Z : Option Addr} {ev : ByteArray} {S : Nat → Prop} {ns : List Ntc} {nx n9 pA pC c1 c2 : Nat} {A1 A2 : Option Addr} {cf : Int} {wy : World} {u0 u2 u4 u7 u10 u11 u16 u18 u19 u20 u21 u22 u23 u24 u25 u26 u27 u28 u29 u30 u31 u32 u33 u34 u35 u36 u37 u38 u39 u40 u41 u42 u43 u44 u45 u46 u47 u48 u49 u50 u51 u52 u53 u54 u55 u56 u57 u58 u59 u60 u61 u62 u63 u64 u65 u66 u67 u68 u69 u70 u71 u72 u73 u74 u75 u76 u77 u78 u79 u80 u81 u82 u83 u84 u85 u86 u87 u88 u89 u90 u91 u92 u93 u94 u95 u96 u97 u98 u99 u100 u101 u102 u103 u104 u105 u106 u107 u108 u109 u110 u111 u112 u113 u114 u115 u116 u117 u118 u119 u120 u121 u122 u123 u124 u125 u126 u127 u128 u129 u130 u131 u132 u133 u134 u135 u136 u137 u138 u139 u140 u141 u142 u143 u144 u145 u146 u147 u148 u149 u150 u151 u152 u153 u154 u155 u156 u157 u158 u159 u160 u161 u162 u163 u164 u165 u166 u167 u168 u169 u170 u171 u172 u173 u174 u175 u176 u177 u178 u179 u180 u181 u182 u183 u184 u185 u186 u187 u188 u189 u190 u191 u192 u193 u194 u195 u196 u197 u198 u199 u200 u201 u202 u203 u204 u205 u206 u207 u208 u209 u210 u211 u212 u213 u214 u215 u216 u217 u218 u219 u220 u221 u222 u223 u224 u225 u226 u227 u228 u229 u230 u231 u232 u233 u234 u235 u236 u237 u238 u239 u240 u241 u242 u243 u244 u245 u246 u247 u248 u249 u250 u251 u252 u253 u254 u255 u256 u257 u258 u259 u260 u261 u262 u263 u264 u265 : Value} (hEZ : ∀ W, Below lo X0 W → NiE W lo K kc Z zc) (hNK : NightOk xn xo g CL) (hEN : ev.data.toList = evN k) (hES : ev.size ≤ maxLen) (h20 : k < 20) (hNB : NBoard k ns) (hS : ∀ j, S j → lo ≤ j ∧ j < w6.heap.size) (hlo6 : lo ≤ w6.heap.size) (hK : NiNext X0 Kc lo bb k w.heap.size qb qo ll qc K kc Z zc CL CA cc ev u0 u2 u4 u7 u10 u11 u22 u23 u24 u25 u26 u27 u28 u29 u30 u31 u32 u33 u34 u35 u36 u37 u38 u39 u40 u41 u42 u43 u44 u45 u46 u47 u48 u49 u50 u51 u52 u53 u54 u55 u56 u57 u58 u265) (hcf : CL.take 1 = [cf]) (hzx : w6.heap.size ≤ nx) (hz9 : nx ≤ n9) (hzy : n9 ≤ wy.heap.size) (hNAy : Nb wy w6.heap.size nx pA (nA ev xn xo g CL) A1 c1) (hNC : Nb wy n9 wy.heap.size pC (nC (nA ev xn xo g CL) [cf]) A2 c2) (hXY : Below w6.heap.size w6 wy) (hBD6 : Bd w6 S bb ringK 2 ns) (hL6 : ∀ W, Below w6.heap.size w6 W → Below lo X0 W) :
    Code.wp Tryz.prog (niC 24) (Exit.inBlock 1 (Exit.then Kc Q')) ⟨#[u0, .pointer (some ⟨w.heap.size, 0, none⟩), u2, .slice (some ⟨qb, qo, none⟩) ll qc, u4, .slice K 3 kc, .slice Z 3 zc, u7, .pointer (some ⟨bb, 0, none⟩), .int .i64 (k : Int), u10, u11, .slice CA CL.length cc, .int .i64 0, .string ev, .pointer (some ⟨pA, 0, none⟩), u16, .pointer (some ⟨pC, 0, none⟩), u18, u19, u20, u21, u22, u23, u24, u25, u26, u27, u28, u29, u30, u31, u32, u33, u34, u35, u36, u37, u38, u39, u40, u41, u42, u43, u44, u45, u46, u47, u48, u49, u50, u51, u52, u53, u54, u55, u56, u57, u58, u59, u60, u61, u62, u63, u64, u65, u66, u67, u68, u69, u70, u71, u72, u73, u74, u75, u76, u77, u78, u79, u80, u81, u82, u83, u84, u85, u86, u87, u88, u89, u90, u91, u92, u93, u94, u95, u96, u97, u98, u99, u100, u101, u102, u103, u104, u105, u106, u107, u108, u109, u110, u111, u112, u113, u114, u115, u116, u117, u118, u119, u120, u121, u122, u123, u124, u125, u126, u127, u128, u129, u130, u131, u132, u133, u134, u135, u136, u137, u138, u139, u140, u141, u142, u143, u144, u145, u146, u147, u148, u149, u150, u151, u152, u153, u154, u155, u156, u157, u158, u159, u160, u161, u162, u163, u164, u165, u166, u167, u168, u169, u170, u171, u172, u173, u174, u175, u176, u177, u178, u179, u180, u181, u182, u183, u184, u185, u186, u187, u188, u189, u190, u191, u192, u193, u194, u195, u196, u197, u198, u199, u200, u201, u202, u203, u204, u205, u206, u207, u208, u209, u210, u211, u212, u213, u214, u215, u216, u217, u218, u219, u220, u221, u222, u223, u224, u225, u226, u227, u228, u229, u230, u231, u232, u233, u234, u235, u236, u237, u238, u239, u240, u241, u242, u243, u244, u245, u246, u247, u248, u249, u250, u251, u252, u253, u254, u255, u256, u257, u258, u259, u260, u261, u262, u263, u264, u265], []⟩ wy := by
  have HEZ := Lib.hid hEZ
  have HNK := Lib.hid hNK
  have HEN := Lib.hid hEN
  have HES := Lib.hid hES
  have HNB := Lib.hid hNB
  have HS := Lib.hid hS
  have HKK := Lib.hid hK
  have HNAy := Lib.hid hNAy
  have HNC := Lib.hid hNC
  have HXY := Lib.hid hXY
  have HBD6 := Lib.hid hBD6
  have HL6 := Lib.hid hL6
  clear hEZ hNK hEN hES hNB hS hK hNAy hNC hXY hBD6 hL6
  have HRX : Hid (∀ W, Below lo X0 W → Rdy W ∧ True) := fun W hW => ⟨(HEZ.out W hW).r, trivial⟩
  conv => arg 2; whnf
  try dsimp only
  have HSY := Lib.hid (night_says HNK.out HEN.out h20 HNB.out hcf)
  have HWI : Hid (witR (nC (nA ev xn xo g CL) [cf]) 102 = ((nW (nC (nA ev xn xo g CL) [cf])), 0)) := witN HSY.out.okc rfl rfl rfl
  go_upto_region 24 with fail
  go_cut [18, 16] from 59 to 264 (fun s18 s16 wq => NiA wy (nW (nC (nA ev xn xo g CL) [cf])) s18 s16 wq)
  case first =>
    obtain ⟨e0, e1, e2, e3, e4, e5, e6, e7, e8⟩ := (HNC.out).cells
    simp only [nC, nA] at e0 e1 e2 e3 e4 e5 e6 e7 e8
    have hpc := HNC.out.p3
    go_wp2_with fail
    refine (Withdraw_is (nC (nA ev xn xo g CL) [cf]) A2 c2 102 (nW (nC (nA ev xn xo g CL) [cf])) 0 _ HWI.out (HNC.out.ain.below (by repeat (first | exact Below.refl _ _ | assumption | refine below_drewN ?_ _ | refine Below.drew ?_ | refine Below.setCell ?_ (by first | omega | (simp; done) | (simp; omega)) _ | refine Below.alloc ?_ (by first | omega | (simp; done) | (simp; omega)) _))) (HRX.out _ (HL6.out _ (HXY.out.trans ((show Below wy.heap.size wy _ from (by repeat (first | exact Below.refl _ _ | assumption | refine below_drewN ?_ _ | refine Below.drew ?_ | refine Below.setCell ?_ (by first | omega | (simp; done) | (simp; omega)) _ | refine Below.alloc ?_ (by first | omega | (simp; done) | (simp; omega)) _))).mono (by omega))))).1).mono ?_
    rintro e wz ⟨A3, c3, rfl, dr3, hb⟩
    have HDR3 := Lib.hid dr3
    have HBZ : Hid (Below wy.heap.size wy wz) := (show Below wy.heap.size wy _ from (by repeat (first | exact Below.refl _ _ | assumption | refine below_drewN ?_ _ | refine Below.drew ?_ | refine Below.setCell ?_ (by first | omega | (simp; done) | (simp; omega)) _ | refine Below.alloc ?_ (by first | omega | (simp; done) | (simp; omega)) _))).trans (hb.mono (by first | omega | (simp; done) | (simp; omega)))
    clear hb dr3 e0 e1 e2 e3 e4 e5 e6 e7 e8
    go_wp2_with fail
    go_meet
    exact niA_1 HDR3.out (Nat.le_refl _) HBZ.out HES.out
  case rest =>
    obtain ⟨wq, pW, A3, c3, hwq, rfl, rfl, hnb3, hb3'⟩ := hcut
    subst hwq
    have hzq := hb3'.size
    have HXQ : Hid (Below w6.heap.size w6 wq) := HXY.out.trans (hb3'.mono (by omega))
    have HNAq := Lib.hid (HNAy.out.below hb3')
    have HNCq := Lib.hid (HNC.out.below hb3')
    have HNWq := Lib.hid hnb3
    have HLQ := Lib.hid (HL6.out _ HXQ.out)
    have HEQ := Lib.hid (HEZ.out _ HLQ.out)
    have HBDq := Lib.hid (HBD6.out.below HXQ.out)
    have hlq : lo ≤ wq.heap.size := HEQ.out.lo
    clear hnb3 hb3' HNAy HNC HXY
    obtain ⟨d0, d1, d2, d3, d4, d5, d6, d7, d8⟩ := (HNAq.out).cells
    simp only [nA] at d0 d1 d2 d3 d4 d5 d6 d7 d8
    have hpa := HNAq.out.p3
    go_wp2_with fail
    refine (npost_ S bb ns (nA ev xn xo g CL) A1 c1 K kc Z zc _ HBDq.out (HEQ.out.k.more HEQ.out.lo) (HEQ.out.z.more HEQ.out.lo) HNAq.out.ain HSY.out.oka (HNAq.out.al.mono (fun i hi hs => by have := (HS.out i hs).2; omega)) HEQ.out.r HSY.out.p1).mono ?_
    rintro e w10 ⟨rfl, hbd, hkp⟩
    clear d0 d1 d2 d3 d4 d5 d6 d7 d8
    have hs10 := hkp.size
    have HLA : Hid (Below lo X0 w10) := HLQ.out.trans (hkp.below hlq (fun i hi => (HS.out i hi).1))
    have HEA := Lib.hid (HEZ.out _ HLA.out)
    have HNCa := Lib.hid (HNCq.out.keep hkp (fun i h1 h2 hs => by have := (HS.out i hs).2; omega))
    have HNWa := Lib.hid (HNWq.out.keep hkp (fun i h1 h2 hs => by have := (HS.out i hs).2; omega))
    obtain ⟨T1, hT1⟩ : ∃ T : Nat → Prop, (fun i => (S i ∨ wq.heap.size ≤ i) ∧ i < w10.heap.size) = T := ⟨_, rfl⟩
    rw [hT1] at hbd
    have HT1 : Hid (∀ i, T1 i → (S i ∨ wq.heap.size ≤ i) ∧ i < w10.heap.size) := fun i hi => by rw [← hT1] at hi; exact hi
    have HBDa := Lib.hid hbd
    clear hbd hkp hT1 HNAq HNCq HNWq HEQ HBDq
    obtain ⟨e0, e1, e2, e3, e4, e5, e6, e7, e8⟩ := (HNCa.out).cells
    simp only [nC, nA] at e0 e1 e2 e3 e4 e5 e6 e7 e8
    have hpc := HNCa.out.p3
    go_wp2_with fail
    refine (npost_ T1 bb (ns ++ [rN (nA ev xn xo g CL)]) (nC (nA ev xn xo g CL) [cf]) A2 c2 K kc Z zc _ HBDa.out (HEA.out.k.more HEA.out.lo) (HEA.out.z.more HEA.out.lo) HNCa.out.ain HSY.out.okc (HNCa.out.al.mono (fun i hi ht => by rcases (HT1.out i ht).1 with hs | hs; exact absurd (HS.out i hs).2 (by omega); omega)) HEA.out.r HSY.out.p2).mono ?_
    rintro e w11 ⟨rfl, hbd, hkp⟩
    clear e0 e1 e2 e3 e4 e5 e6 e7 e8
    have hs11 := hkp.size
    have HLB : Hid (Below lo X0 w11) := HLA.out.trans (hkp.below HEA.out.lo (fun i hi => (HT1.out i hi).1.elim (fun h => (HS.out i h).1) (fun h => Nat.le_trans hlq h)))
    have HEB := Lib.hid (HEZ.out _ HLB.out)
    have HNCb := Lib.hid (HNCa.out.keep hkp (fun i h1 h2 ht => by rcases (HT1.out i ht).1 with hs | hs; exact absurd (HS.out i hs).2 (by omega); omega))
    have HNWb := Lib.hid (HNWa.out.keep hkp (fun i h1 h2 ht => by rcases (HT1.out i ht).1 with hs | hs; exact absurd (HS.out i hs).2 (by omega); omega))
    obtain ⟨T2, hT2⟩ : ∃ T : Nat → Prop, (fun i => (T1 i ∨ w10.heap.size ≤ i) ∧ i < w11.heap.size) = T := ⟨_, rfl⟩
    rw [hT2] at hbd
    have HT2 : Hid (∀ i, T2 i → (S i ∨ wq.heap.size ≤ i) ∧ i < w11.heap.size) := fun i hi => by
      rw [← hT2] at hi
      exact ⟨hi.1.elim (fun h => (HT1.out i h).1) (fun h => Or.inr (Nat.le_trans hs10 h)), hi.2⟩
    have HBDb := Lib.hid hbd
    clear hbd hkp hT2 HNCa HNWa HEA HBDa
    go_upto_region 27 with fail
    go_cut [19, 13] from 59 to 264 (fun s19 s13 wv => NiA w11 (nC (nA ev xn xo g CL) [cf]) s19 s13 wv)
    case first =>
      go_wp2_with fail
      refine (Force_ T2 bb ringK 2 ((ns ++ [rN (nA ev xn xo g CL)]) ++ [rN (nC (nA ev xn xo g CL) [cf])]) ev _ (nC (nA ev xn xo g CL) [cf]) 0 HSY.out.f1 HES.out HBDb.out).mono ?_
      rintro e wz ⟨A4, c4, rfl, dr4, hb⟩
      have HDR4 := Lib.hid dr4
      have HBZ := Lib.hid hb
      clear hb dr4
      go_wp2_with fail
      go_meet
      exact niA_1 HDR4.out (Nat.le_refl _) HBZ.out HES.out
    case rest =>
      obtain ⟨wv, pF, A4, c4, hwv, rfl, rfl, hnb4, hb4'⟩ := hcut
      subst hwv
      have hzv := hb4'.size
      have HNFv := Lib.hid hnb4
      have HNCv := Lib.hid (HNCb.out.below hb4')
      have HNWv := Lib.hid (HNWb.out.below hb4')
      have HLV : Hid (Below lo X0 wv) := HLB.out.trans (hb4'.mono HEB.out.lo)
      have HBV := Lib.hid hb4'
      clear hnb4 hb4' HNCb HNWb
      have HBDv := Lib.hid (HBDb.out.below HBV.out)
      go_step
      exact lni_28 HEZ.out HNK.out HEN.out HES.out h20 HNB.out HS.out hlo6 HKK.out hcf (n9 := n9) (ny := wy.heap.size) (nq := wq.heap.size) (n11 := w11.heap.size) (by omega) (by omega) (by omega) (by omega) (by omega) HT2.out HBDv.out HNFv.out HNCv.out HNWv.out HLV.out (by have := HLV.out.size; have := HEB.out.lo; omega)
end Go.Proofs.YtmpbhngjkbidcaaGreatDoor
