/-
  AlertNight, a piece of a round of its loop: the alert's cells are those that fit; the follower made
-/
import Derived.Test.YtmpbhngjkbidcaaGreatDoorW27
namespace Go.Proofs.YtmpbhngjkbidcaaGreatDoor
open Go.RowKit Al

set_option maxRecDepth 100000 in
set_option maxHeartbeats 16000000 in
theorem lni_21 {w X0 w6 : World} {Kc : Act → World → Prop} {Q' : Exit → Act → World → Prop} {lo qb qo bb k ll qc cc kc zc : Nat} {g xn xo : Int} {CL : List Int} {CA K Z : Option Addr} {ev : ByteArray} {S : Nat → Prop} {ns : List Ntc} {limit p3 : Int} {pA c1 : Nat} {A1 : Option Addr} {ia ib : Int} {wx : World} {u0 u2 u4 u7 u10 u11 u17 u18 u19 u20 u21 u22 u23 u24 u25 u26 u27 u28 u29 u30 u31 u32 u33 u34 u35 u36 u37 u38 u39 u40 u41 u42 u43 u44 u45 u46 u47 u48 u49 u50 u51 u52 u53 u54 u55 u56 u57 u58 u59 u60 u61 u62 u63 u64 u65 u66 u67 u68 u69 u70 u71 u72 u73 u74 u75 u76 u77 u78 u79 u80 u81 u82 u83 u84 u85 u86 u87 u88 u89 u90 u91 u92 u93 u94 u95 u96 u97 u98 u99 u100 u101 u102 u103 u104 u105 u106 u107 u108 u109 u110 u111 u112 u113 u114 u115 u116 u117 u118 u119 u120 u121 u122 u123 u124 u125 u126 u127 u128 u129 u130 u131 u132 u133 u134 u135 u136 u137 u138 u139 u140 u141 u142 u143 u144 u145 u146 u147 u148 u149 u150 u151 u152 u153 u154 u155 u156 u157 u158 u159 u160 u161 u162 u163 u164 u165 u166 u167 u168 u169 u170 u171 u172 u173 u174 u175 u176 u177 u178 u179 u180 u181 u182 u183 u184 u185 u186 u187 u188 u189 u190 u191 u192 u193 u194 u195 u196 u197 u198 u199 u200 u201 u202 u203 u204 u205 u206 u207 u208 u209 u210 u211 u212 u213 u214 u215 u216 u217 u218 u219 u220 u221 u222 u223 u224 u225 u226 u227 u228 u229 u230 u231 u232 u233 u234 u235 u236 u237 u238 u239 u240 u241 u242 u243 u244 u245 u246 u247 u248 u249 u250 u251 u252 u253 u254 u255 u256 u257 u258 u259 u260 u261 u262 u263 u264 u265 : Value} (hEZ : ∀ W, Below lo X0 W → NiE W lo K kc Z zc) (hNK : NightOk xn xo g CL) (hEN : ev.data.toList = evN k) (hES : ev.size ≤ maxLen) (h20 : k < 20) (hNB : NBoard k ns) (hS : ∀ j, S j → lo ≤ j ∧ j < w6.heap.size) (hlo6 : lo ≤ w6.heap.size) (hK : NiNext X0 Kc lo bb k w.heap.size qb qo ll qc K kc Z zc CL CA cc ev u0 u2 u4 u7 u10 u11 u22 u23 u24 u25 u26 u27 u28 u29 u30 u31 u32 u33 u34 u35 u36 u37 u38 u39 u40 u41 u42 u43 u44 u45 u46 u47 u48 u49 u50 u51 u52 u53 u54 u55 u56 u57 u58 u265) (hcl0 : 0 < CL.length) (hcc0 : CL.length ≤ cc) (hkl : k < ll) (hqb : qb < lo) (hwlo : w.heap.size < lo) (hNA : Nb wx w6.heap.size wx.heap.size pA (nA ev xn xo g CL) A1 c1) (hBX : Below w6.heap.size w6 wx) (hCE : ∀ W, Below w6.heap.size w6 W → W.cell? ⟨qb, qo + k * 5, none⟩ = some (.int .i64 ia) ∧ W.cell? ⟨qb, qo + k * 5 + 1, none⟩ = some (.int .i64 ib) ∧ W.cell? ⟨qb, qo + k * 5 + 2, none⟩ = some (.int .i64 p3) ∧ W.cell? ⟨qb, qo + k * 5 + 3, none⟩ = some (.int .i64 xn) ∧ W.cell? ⟨qb, qo + k * 5 + 4, none⟩ = some (.int .i64 xo) ∧ W.cell? ⟨w.heap.size, 5, none⟩ = some (.int .i64 limit) ∧ W.cell? ⟨w.heap.size, 7, none⟩ = some (.int .i64 g)) (hSL : ∀ W, Below w6.heap.size w6 W → Sl W W.heap.size 1 CA CL.length cc (ints CL)) (hBD6 : Bd w6 S bb ringK 2 ns) (hL6 : ∀ W, Below w6.heap.size w6 W → Below lo X0 W) :
    Code.wp Tryz.prog (niC 21) (Exit.inBlock 1 (Exit.then Kc Q')) ⟨#[u0, .pointer (some ⟨w.heap.size, 0, none⟩), u2, .slice (some ⟨qb, qo, none⟩) ll qc, u4, .slice K 3 kc, .slice Z 3 zc, u7, .pointer (some ⟨bb, 0, none⟩), .int .i64 (k : Int), u10, u11, .slice CA CL.length cc, .int .i64 4, .string ev, .pointer (some ⟨pA, 0, none⟩), .int .i64 0, u17, u18, u19, u20, u21, u22, u23, u24, u25, u26, u27, u28, u29, u30, u31, u32, u33, u34, u35, u36, u37, u38, u39, u40, u41, u42, u43, u44, u45, u46, u47, u48, u49, u50, u51, u52, u53, u54, u55, u56, u57, u58, u59, u60, u61, u62, u63, u64, u65, u66, u67, u68, u69, u70, u71, u72, u73, u74, u75, u76, u77, u78, u79, u80, u81, u82, u83, u84, u85, u86, u87, u88, u89, u90, u91, u92, u93, u94, u95, u96, u97, u98, u99, u100, u101, u102, u103, u104, u105, u106, u107, u108, u109, u110, u111, u112, u113, u114, u115, u116, u117, u118, u119, u120, u121, u122, u123, u124, u125, u126, u127, u128, u129, u130, u131, u132, u133, u134, u135, u136, u137, u138, u139, u140, u141, u142, u143, u144, u145, u146, u147, u148, u149, u150, u151, u152, u153, u154, u155, u156, u157, u158, u159, u160, u161, u162, u163, u164, u165, u166, u167, u168, u169, u170, u171, u172, u173, u174, u175, u176, u177, u178, u179, u180, u181, u182, u183, u184, u185, u186, u187, u188, u189, u190, u191, u192, u193, u194, u195, u196, u197, u198, u199, u200, u201, u202, u203, u204, u205, u206, u207, u208, u209, u210, u211, u212, u213, u214, u215, u216, u217, u218, u219, u220, u221, u222, u223, u224, u225, u226, u227, u228, u229, u230, u231, u232, u233, u234, u235, u236, u237, u238, u239, u240, u241, u242, u243, u244, u245, u246, u247, u248, u249, u250, u251, u252, u253, u254, u255, u256, u257, u258, u259, u260, u261, u262, u263, u264, u265], []⟩ wx := by
  have HEZ := Lib.hid hEZ
  have HNK := Lib.hid hNK
  have HEN := Lib.hid hEN
  have HES := Lib.hid hES
  have HNB := Lib.hid hNB
  have HS := Lib.hid hS
  have HKK := Lib.hid hK
  have HNA := Lib.hid hNA
  have HBX := Lib.hid hBX
  have HCE := Lib.hid hCE
  have HSL := Lib.hid hSL
  have HBD6 := Lib.hid hBD6
  have HL6 := Lib.hid hL6
  clear hEZ hNK hEN hES hNB hS hK hNA hBX hCE hSL hBD6 hL6
  have HRX : Hid (∀ W, Below lo X0 W → Rdy W ∧ True) := fun W hW => ⟨(HEZ.out W hW).r, trivial⟩
  conv => arg 2; whnf
  try dsimp only
  have hzx := HBX.out.size
  have hkl2 : (k : Int) < (ll : Int) := by omega
  have HOA : Hid (okA (nA ev xn xo g CL) = true) := nA_ok HNK.out (by rw [HEN.out]; exact evN_name k h20)
  obtain ⟨d0, d1, d2, d3, d4, d5, d6, d7, d8⟩ := HNA.out.cells
  simp only [nA] at d0 d1 d2 d3 d4 d5 d6 d7 d8
  have hpx := HNA.out.p3
  obtain ⟨c0, c1', c2, c3, c4, y5, y7⟩ := HCE.out wx HBX.out
  have hqw' : qb < wx.heap.size := by omega
  have hxw' : w.heap.size < wx.heap.size := by omega
  clear c0 c1' c2 d0 d1 d2 d5 d7 d8 y5 y7
  go_wp2_with fail
  refine wp_region_bw2 (by kernel_rfl) (by kernel_rfl) (fun hbwc => ?_)
  repeat (go_big_quiet_step ((go_at_call 12; exact bwCall (SameInts_is CL CL A1 c1 CA cc _ true (beq_self_eq_true CL) (AIn.below HNA.out.ain (BW.below _)).sl (((HSL.out _ HBX.out).below (BW.below _)).more (BW.below _).size)))))
  refine wpQuiet_nil ?_
  clear hbwc
  intro w9 hb
  have HB9 : Hid (Below wx.heap.size wx w9) := hb
  clear hb
  have hz9 := HB9.out.size
  obtain ⟨cf, hcf⟩ := head_one hcl0
  have HSY := Lib.hid (night_says HNK.out HEN.out h20 HNB.out hcf)
  have HFO : Hid (folR (nA ev xn xo g CL) 101 xn xo g [cf] = ((nC (nA ev xn xo g CL) [cf]), 0)) := folN HSY.out.oka rfl rfl rfl HSY.out.okc
  have HWI : Hid (witR (nC (nA ev xn xo g CL) [cf]) 102 = ((nW (nC (nA ev xn xo g CL) [cf])), 0)) := witN HSY.out.okc rfl rfl rfl
  have HSC : Hid (∀ W, Below w6.heap.size w6 W → Sl W W.heap.size 1 CA 1 cc (ints [cf])) := fun W hW => (HSL.out W hW).first hcf (by omega)
  have hcc1 : 1 ≤ cc := Nat.le_trans hcl0 hcc0
  have hcc2 : (1 : Int) ≤ (cc : Int) := by omega
  have HX9 : Hid (Below w6.heap.size w6 w9) := HBX.out.trans (HB9.out.mono hzx)
  have HNA9 := Lib.hid (HNA.out.below HB9.out)
  clear HNA
  go_upto_region 23 with fail
  go_cut [17, 13] from 59 to 264 (fun s17 s13 wy => NiA w9 (nC (nA ev xn xo g CL) [cf]) s17 s13 wy)
  case first =>
    obtain ⟨-, -, -, c3, c4, -, y7⟩ := HCE.out w9 HX9.out
    obtain ⟨d0, d1, d2, d3, d4, d5, d6, d7, d8⟩ := (HNA9.out).cells
    simp only [nA] at d0 d1 d2 d3 d4 d5 d6 d7 d8
    have hqw9 : qb < w9.heap.size := by omega
    have hxw9 : w.heap.size < w9.heap.size := by omega
    have hpx9 : pA < w9.heap.size := HNA9.out.p3
    have DC : Below w9.heap.size w9 w9 := Below.refl _ _
    go_region_held3 (fun w' => ∀ b o, b < w9.heap.size → w'.cell? ⟨b, o, none⟩ = w9.cell? ⟨b, o, none⟩) (first | exact fun b o h => (Below.trans DC (show Below w9.heap.size _ _ from (by repeat (first | with_reducible exact Below.refl _ _ | with_reducible assumption | (with_reducible refine Below.setCell ?_ (by first | omega | (simp; done) | (simp; omega)) _) | (with_reducible refine Below.alloc ?_ (by first | omega | (simp; done) | (simp; omega)) _) | with_reducible refine Below.drew ?_ | with_reducible refine below_drewN ?_ _)))).cell (p := ⟨b, o, none⟩) h | exact kN | exact fun b o h => rfl)
      (first
    | (go_at_call 13; refine (Follow_l (nA ev xn xo g CL) A1 c1 101 xn xo g [cf] CA cc (nC (nA ev xn xo g CL) [cf]) 0 _ rfl HFO.out (HNA9.out.ain.below (Below.trans DC (by (repeat (first | exact Below.refl _ _ | assumption | refine below_drewN ?_ _ | refine Below.drew ?_ | refine Below.setCell ?_ (by first | omega | (simp; done) | (simp; omega)) _ | refine Below.alloc ?_ (by first | omega | (simp; done) | (simp; omega)) _))))) (HSC.out _ (HX9.out.trans ((Below.trans DC (by (repeat (first | exact Below.refl _ _ | assumption | refine below_drewN ?_ _ | refine Below.drew ?_ | refine Below.setCell ?_ (by first | omega | (simp; done) | (simp; omega)) _ | refine Below.alloc ?_ (by first | omega | (simp; done) | (simp; omega)) _)))).mono (by omega)))) (HRX.out _ (HL6.out _ (HX9.out.trans ((Below.trans DC (by (repeat (first | exact Below.refl _ _ | assumption | refine below_drewN ?_ _ | refine Below.drew ?_ | refine Below.setCell ?_ (by first | omega | (simp; done) | (simp; omega)) _ | refine Below.alloc ?_ (by first | omega | (simp; done) | (simp; omega)) _)))).mono (by omega))))).1).mono ?_; rintro e wm ⟨DA, dc, rfl, dr, hbn⟩; (first | (with_reducible have bx0 := bx_callD (wn := w9) hbn) | (with_reducible have bx0 := bx_callA (wn := w9) hbn)); have bx := bx0 rfl; clear bx0; obtain ⟨⟨e0, e1, e2, e3, e4, e5, e6, e7, e8⟩, g0, g1, g2, g3, g4, g5, g6, g7, g8⟩ := bx_facts bx; have HBX2 := Lib.hid bx; clear bx; have HDR := Lib.hid dr; have HBN := Lib.hid hbn; have sC := hbn.size; (try simp at sC); have DC := Below.trans DC (Below.trans (show Below w9.heap.size _ _ from (by (repeat (first | exact Below.refl _ _ | assumption | refine below_drewN ?_ _ | refine Below.drew ?_ | refine Below.setCell ?_ (by first | omega | (simp; done) | (simp; omega)) _ | refine Below.alloc ?_ (by first | omega | (simp; done) | (simp; omega)) _)))) (hbn.mono (by first | omega | (simp; done) | (simp; omega)))); have kN := (fun b o (h : b < w9.heap.size) => DC.cell (p := ⟨b, o, none⟩) h); clear hbn; clear dr)
    | (go_at_call 13; refine (Follow_l (nA ev xn xo g CL) A1 c1 101 xn xo g [cf] CA cc (nC (nA ev xn xo g CL) [cf]) 0 _ rfl HFO.out (HNA9.out.ain.below (Below.trans DC (by (repeat (first | exact Below.refl _ _ | assumption | refine below_drewN ?_ _ | refine Below.drew ?_ | refine Below.setCell ?_ (by first | omega | (simp; done) | (simp; omega)) _ | refine Below.alloc ?_ (by first | omega | (simp; done) | (simp; omega)) _))))) (HSC.out _ (HX9.out.trans ((Below.trans DC (by (repeat (first | exact Below.refl _ _ | assumption | refine below_drewN ?_ _ | refine Below.drew ?_ | refine Below.setCell ?_ (by first | omega | (simp; done) | (simp; omega)) _ | refine Below.alloc ?_ (by first | omega | (simp; done) | (simp; omega)) _)))).mono (by omega)))) (HRX.out _ (HL6.out _ (HX9.out.trans ((Below.trans DC (by (repeat (first | exact Below.refl _ _ | assumption | refine below_drewN ?_ _ | refine Below.drew ?_ | refine Below.setCell ?_ (by first | omega | (simp; done) | (simp; omega)) _ | refine Below.alloc ?_ (by first | omega | (simp; done) | (simp; omega)) _)))).mono (by omega))))).1).mono ?_; rintro e wm ⟨DA, dc, rfl, dr, hbn⟩; have HDR := Lib.hid dr; have HBN := Lib.hid hbn; have sC := hbn.size; (try simp at sC); have DC := Below.trans DC (Below.trans (show Below w9.heap.size _ _ from (by (repeat (first | exact Below.refl _ _ | assumption | refine below_drewN ?_ _ | refine Below.drew ?_ | refine Below.setCell ?_ (by first | omega | (simp; done) | (simp; omega)) _ | refine Below.alloc ?_ (by first | omega | (simp; done) | (simp; omega)) _)))) (hbn.mono (by first | omega | (simp; done) | (simp; omega)))); have kN := (fun b o (h : b < w9.heap.size) => DC.cell (p := ⟨b, o, none⟩) h); clear hbn; clear dr))
    · go_wp2_with fail
      go_meet
      exact niA_1 HDR.out (Nat.le_refl _) (Below.trans (Below.refl w9.heap.size w9) (DC.mono (Nat.le_refl _))) HES.out
    · go_wp2_with fail
      go_meet
      exact niA_2 (HBX2.out.store (nC (nA ev xn xo g CL) [cf]) DA dc) HDR.out (by simp) (kp_store _ _ (nC (nA ev xn xo g CL) [cf]) DA dc) (Below.refl w9.heap.size w9) DC HES.out
  case rest =>
    obtain ⟨wy, pC, A2, c2, hwy, rfl, rfl, hnb2, hb2'⟩ := hcut
    subst hwy
    have HNC := Lib.hid hnb2
    have HBY := Lib.hid hb2'
    have hzy := hb2'.size
    have HXY : Hid (Below w6.heap.size w6 wy) := HX9.out.trans (HBY.out.mono (by omega))
    clear hnb2 hb2'
    have HNAy := Lib.hid (HNA9.out.below HBY.out)
    go_step
    exact lni_24 HEZ.out HNK.out HEN.out HES.out h20 HNB.out HS.out hlo6 HKK.out hcf (nx := wx.heap.size) (n9 := w9.heap.size) (by omega) (by omega) (by omega) HNAy.out HNC.out HXY.out HBD6.out HL6.out
end Go.Proofs.YtmpbhngjkbidcaaGreatDoor
