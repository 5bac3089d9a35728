/-
  TopPublished, a piece of its walk: the withdrawal, signed and posted; the alert that comes too late, signed
-/
import Derived.Test.YtmpbhngjkbidcaaGreatDoorW51
namespace Go.Proofs.YtmpbhngjkbidcaaGreatDoor
open Go.RowKit Al

set_option maxRecDepth 100000 in
set_option maxHeartbeats 16000000 in
theorem ltop_21 {w w4 : World} {lo qb qo rb cc kc : Nat} {g limit p1 p2 p3 xn xo : Int} {CL : List Int} {CA K : Option Addr} {bb ll qc : Nat} {w5 w6 w13 : World} {n7 n12 pA pN pW c1 c3 sc6 : Nat} {A1 A3 S6 : Option Addr} {T1 : Nat → Prop} {u0 u2 u6 u8 u9 u14 u15 u16 u17 u19 u20 u21 u22 u23 u24 u25 u26 u27 u28 u29 u30 u31 u32 u33 u34 u35 u36 u37 u38 u39 u40 u41 u42 u43 u44 u45 u46 u47 u48 u49 u50 u51 u52 u53 u54 u55 u56 u57 u58 u59 u60 u61 u62 u63 u64 u65 u66 u67 u68 u69 u70 u71 u72 u73 u74 u75 u76 u77 u78 u79 u80 u81 u82 u83 u84 u85 u86 u87 u88 u89 u90 u91 u92 u93 u94 u95 u96 u97 u98 u99 u100 u101 u102 u103 u104 u105 u106 u107 u108 u109 u110 u111 u112 u113 u114 u115 u116 u117 u118 u119 u120 u121 u122 u123 u124 u125 u126 u127 u128 u129 u130 u131 u132 u133 u134 u135 u136 u137 u138 u139 u140 u141 u142 u143 u144 u145 u146 u147 u148 u149 u150 u151 u152 u153 u154 u155 u156 u157 u158 u159 u160 u161 u162 u163 u164 u165 u166 u167 u168 u169 u170 u171 u172 u173 u174 u175 u176 u177 u178 u179 u180 u181 u182 u183 u184 u185 u186 u187 u188 u189 u190 u191 u192 u193 u194 u195 u196 u197 u198 u199 u200 u201 u202 u203 u204 u205 u206 u207 u208 u209 u210 u211 u212 u213 u214 u215 u216 u217 u218 u219 u220 u221 u222 u223 u224 u225 u226 u227 u228 u229 u230 u231 u232 u233 u234 u235 u236 u237 u238 u239 u240 u241 u242 u243 u244 u245 u246 u247 u248 u249 u250 u251 u252 u253 u254 u255 u256 u257 u258 u259 u260 u261 u262 u263 u264 : Value} (hEX : TpEx w w4 lo qb qo rb g limit p1 p2 p3 xn xo CL CA cc K kc) (hNK : NightOk xn xo g CL) (hlo4 : lo ≤ w4.heap.size) (hz5 : w4.heap.size ≤ w5.heap.size) (hz6 : w5.heap.size ≤ w6.heap.size) (hz7 : w6.heap.size ≤ n7) (hz12 : n7 ≤ n12) (hz13 : n12 ≤ w13.heap.size) (hlo13 : lo ≤ w13.heap.size) (hT1 : ∀ i, T1 i → lo ≤ i ∧ (i < w4.heap.size ∨ w6.heap.size ≤ i) ∧ i < n7) (hBD13 : Bd w13 T1 bb offK 2 ([] ++ [rO (tA xn xo g CL)])) (hNA13 : Nb w13 w4.heap.size w5.heap.size pA (tA xn xo g CL) A1 c1) (hNN13 : Nn w13 w5.heap.size w6.heap.size pN (rO (tA xn xo g CL)) A1 c1 S6 sc6) (hNW13 : Nb w13 n12 w13.heap.size pW (tW (tA xn xo g CL)) A3 c3) (hL13 : Below lo w4 w13) :
    Code.wp Tryz.prog (tpC 21) (bodyPost Tryz.prog Tryz.f4 fun e w' => e = .returned (.bool true) ∧ Below w.heap.size w w') ⟨#[u0, .pointer (some ⟨w.heap.size, 0, none⟩), u2, .slice (some ⟨qb, qo, none⟩) ll qc, .int .i64 0, .slice CA CL.length cc, u6, .pointer (some ⟨rb, 0, none⟩), u8, u9, .pointer (some ⟨bb, 0, none⟩), .pointer (some ⟨pA, 0, none⟩), .pointer (some ⟨pN, 0, none⟩), .bool true, u14, u15, u16, u17, .pointer (some ⟨pW, 0, none⟩), u19, u20, u21, u22, u23, u24, u25, u26, u27, u28, u29, u30, u31, u32, u33, u34, u35, u36, u37, u38, u39, u40, u41, u42, u43, u44, u45, u46, u47, u48, u49, u50, u51, u52, u53, u54, u55, u56, u57, u58, u59, u60, u61, u62, u63, u64, u65, u66, u67, u68, u69, u70, u71, u72, u73, u74, u75, u76, u77, u78, u79, u80, u81, u82, u83, u84, u85, u86, u87, u88, u89, u90, u91, u92, u93, u94, u95, u96, u97, u98, u99, u100, u101, u102, u103, u104, u105, u106, u107, u108, u109, u110, u111, u112, u113, u114, u115, u116, u117, u118, u119, u120, u121, u122, u123, u124, u125, u126, u127, u128, u129, u130, u131, u132, u133, u134, u135, u136, u137, u138, u139, u140, u141, u142, u143, u144, u145, u146, u147, u148, u149, u150, u151, u152, u153, u154, u155, u156, u157, u158, u159, u160, u161, u162, u163, u164, u165, u166, u167, u168, u169, u170, u171, u172, u173, u174, u175, u176, u177, u178, u179, u180, u181, u182, u183, u184, u185, u186, u187, u188, u189, u190, u191, u192, u193, u194, u195, u196, u197, u198, u199, u200, u201, u202, u203, u204, u205, u206, u207, u208, u209, u210, u211, u212, u213, u214, u215, u216, u217, u218, u219, u220, u221, u222, u223, u224, u225, u226, u227, u228, u229, u230, u231, u232, u233, u234, u235, u236, u237, u238, u239, u240, u241, u242, u243, u244, u245, u246, u247, u248, u249, u250, u251, u252, u253, u254, u255, u256, u257, u258, u259, u260, u261, u262, u263, u264], []⟩ w13 := by
  have HEX := Lib.hid hEX
  have HNK := Lib.hid hNK
  have HES : Hid (s1.size ≤ maxLen) := Lib.hid (by decide)
  have HOA : Hid (okA (tA xn xo g CL) = true) := tA_ok HNK.out
  have HT1 := Lib.hid hT1
  have HBD13 := Lib.hid hBD13
  have HNA13 := Lib.hid hNA13
  have HNN13 := Lib.hid hNN13
  have HNW13 := Lib.hid hNW13
  have HL13 := Lib.hid hL13
  clear hEX hNK hT1 hBD13 hNA13 hNN13 hNW13 hL13
  unfold TpEx at HEX
  conv => arg 2; whnf
  try dsimp only
  have HOW : Hid (okA (tW (tA xn xo g CL)) = true) := tW_ok HOA.out
  go_upto_region 21 with fail
  go_cut [19, 13] from 26 (fun s19 s13 wx => NiN w13 (rO (tW (tA xn xo g CL))) A3 c3 s19 s13 wx)
  case first =>
    obtain ⟨d0, d1, d2, d3, d4, d5, d6, d7, d8⟩ := HNW13.out.cells
    simp only [tW, tA] at d0 d1 d2 d3 d4 d5 d6 d7 d8
    have hpw := HNW13.out.p3
    go_wp2_with fail
    refine (topsigned_ (tW (tA xn xo g CL)) A3 c3 _ (HNW13.out.ain.below (by repeat (first | exact Below.refl _ _ | assumption | refine below_drewN ?_ _ | refine Below.drew ?_ | refine Below.setCell ?_ (by first | omega | (simp; done) | (simp; omega)) _ | refine Below.alloc ?_ (by first | omega | (simp; done) | (simp; omega)) _))) ((HEX.out _ HL13.out).2.1.below (by repeat (first | exact Below.refl _ _ | assumption | refine below_drewN ?_ _ | refine Below.drew ?_ | refine Below.setCell ?_ (by first | omega | (simp; done) | (simp; omega)) _ | refine Below.alloc ?_ (by first | omega | (simp; done) | (simp; omega)) _))).rdy HOW.out).mono ?_
    rintro e wz ⟨S, sc, rfl, hS, hb⟩
    have HS := Lib.hid hS
    have HBZ : Hid (Below w13.heap.size w13 wz) := (show Below w13.heap.size w13 _ from (by repeat (first | exact Below.refl _ _ | assumption | refine below_drewN ?_ _ | refine Below.drew ?_ | refine Below.setCell ?_ (by first | omega | (simp; done) | (simp; omega)) _ | refine Below.alloc ?_ (by first | omega | (simp; done) | (simp; omega)) _))).trans (hb.mono (by first | omega | (simp; done) | (simp; omega)))
    clear hb hS d0 d1 d2 d3 d4 d5 d6 d7 d8
    go_wp2_with fail
    go_meet
    exact niN_1 HS.out (Nat.le_refl _) HBZ.out
  case rest =>
    obtain ⟨w14, pM, S14, sc14, hw14, rfl, rfl, hnn, hb⟩ := hcut
    subst hw14
    have hz14 := hb.size
    have HNM14 := Lib.hid hnn
    have HNA14 := Lib.hid (HNA13.out.below hb)
    have HNW14 := Lib.hid (HNW13.out.below hb)
    have HL14 : Hid (Below lo w4 w14) := HL13.out.trans (hb.mono (by omega))
    have HBX : Hid (Below w13.heap.size w13 w14) := hb
    have HNN14 := Lib.hid (HNN13.out.below HBX.out)
    have HBD14 := Lib.hid (HBD13.out.below HBX.out)
    clear hb hnn HNA13 HNW13 HL13 HNN13 HBD13 HBX
    obtain ⟨m0, m1, m2, m3, m4, m5, m6, m7, m8, m9⟩ := HNM14.out.cells
    simp only [rO, tW, tA] at m0 m1 m2 m3 m4 m5 m6 m7 m8 m9
    have hpm := HNM14.out.p3
    go_wp2_with fail
    refine (oPost_ T1 bb ([] ++ [rO (tA xn xo g CL)]) (rO (tW (tA xn xo g CL))) A3 c3 S14 sc14 0 _ (HBD14.out.below (by repeat (first | exact Below.refl _ _ | assumption | refine below_drewN ?_ _ | refine Below.drew ?_ | refine Below.setCell ?_ (by first | omega | (simp; done) | (simp; omega)) _ | refine Below.alloc ?_ (by first | omega | (simp; done) | (simp; omega)) _))) ((HNM14.out.nin HNW14.out.ain).below (by repeat (first | exact Below.refl _ _ | assumption | refine below_drewN ?_ _ | refine Below.drew ?_ | refine Below.setCell ?_ (by first | omega | (simp; done) | (simp; omega)) _ | refine Below.alloc ?_ (by first | omega | (simp; done) | (simp; omega)) _))) ((HEX.out _ HL14.out).2.1.below (by repeat (first | exact Below.refl _ _ | assumption | refine below_drewN ?_ _ | refine Below.drew ?_ | refine Below.setCell ?_ (by first | omega | (simp; done) | (simp; omega)) _ | refine Below.alloc ?_ (by first | omega | (simp; done) | (simp; omega)) _))).rdy ((HNW14.out.al.keep (F := fun _ => False) (Kp.of_below (by repeat (first | exact Below.refl _ _ | assumption | refine below_drewN ?_ _ | refine Below.drew ?_ | refine Below.setCell ?_ (by first | omega | (simp; done) | (simp; omega)) _ | refine Below.alloc ?_ (by first | omega | (simp; done) | (simp; omega)) _))) (fun _ _ f => f)).mono (fun i hi ht => by have := (HT1.out i ht).2.2; have := hi.1; omega)) (tPost2 HOA.out)).mono ?_
    rintro e w15 ⟨rfl, hbd, hkp⟩
    have HKP : Hid (Kp T1 w14 w15) := (Kp.of_below (F := T1) (show Below w14.heap.size w14 _ from (by repeat (first | exact Below.refl _ _ | assumption | refine below_drewN ?_ _ | refine Below.drew ?_ | refine Below.setCell ?_ (by first | omega | (simp; done) | (simp; omega)) _ | refine Below.alloc ?_ (by first | omega | (simp; done) | (simp; omega)) _)))).trans hkp (fun i _ h => h)
    have hz15 := HKP.out.size
    rw [postN_0 (tPost2 HOA.out)] at hbd
    obtain ⟨T2, hT2⟩ : ∃ T : Nat → Prop, (fun i => (T1 i ∨ w14.heap.size ≤ i) ∧ i < w15.heap.size) = T := ⟨_, rfl⟩
    have HBD15 : Hid (Bd w15 T2 bb offK 2 (([] ++ [rO (tA xn xo g CL)]) ++ [rO (tW (tA xn xo g CL))])) := hbd.mono (fun i hi => by rw [← hT2]; exact hi)
    have HT2 : Hid (∀ i, T2 i → lo ≤ i ∧ (i < w4.heap.size ∨ (w6.heap.size ≤ i ∧ i < n7) ∨ w14.heap.size ≤ i) ∧ i < w15.heap.size) := fun i hi => by
      rw [← hT2] at hi
      rcases hi with ⟨h | h, h2⟩
      · obtain ⟨a1, a2, a3⟩ := HT1.out i h
        exact ⟨a1, a2.imp id (fun h => Or.inl ⟨h, a3⟩), h2⟩
      · exact ⟨by omega, Or.inr (Or.inr h), h2⟩
    have HNA15 := Lib.hid (HNA14.out.keep HKP.out (fun i h1 h2 ht => by have := (HT1.out i ht).2; omega))
    have HNN15 := Lib.hid (HNN14.out.keep HKP.out (fun i h1 h2 ht => by have := (HT1.out i ht).2; omega))
    have HNM15 := Lib.hid (HNM14.out.keep HKP.out (fun i h1 h2 ht => by have := (HT1.out i ht).2; omega))
    have HNW15 := Lib.hid (HNW14.out.keep HKP.out (fun i h1 h2 ht => by have := (HT1.out i ht).2; omega))
    have hlo15 : lo ≤ w15.heap.size := by omega
    have HL15 : Hid (Below lo w4 w15) := HL14.out.trans (HKP.out.below (by omega) (fun i hi => (HT1.out i hi).1))
    have HOL : Hid (okA (tL xn xo g CL) = true) := tL_ok HNK.out
    clear hbd hkp hT2 m0 m1 m2 m3 m4 m5 m6 m7 m8 m9 HNA14 HNN14 HNM14 HNW14 HBD14 HKP HL14 HT1
    go_upto_region 24 with fail
    obtain ⟨d0, d1, d2, d3, d4, d5, d6, d7, d8⟩ := HNA15.out.cells
    simp only [tA] at d0 d1 d2 d3 d4 d5 d6 d7 d8
    have hpa := HNA15.out.p3
    go_upto_region 26 with fail
    clear d0 d1 d2 d3 d4 d5 d6 d7 d8
    go_cut [21, 13] from 26 (fun s21 s13 wx => NiN w15 (rO (tL xn xo g CL)) A1 c1 s21 s13 wx)
    case first =>
      go_wp2_with fail
      refine (topsigned_ (tL xn xo g CL) A1 c1 _ ((show AIn w15 (tL xn xo g CL) A1 c1 from ⟨HES.out, HNA15.out.ain.sl⟩).below (by repeat (first | exact Below.refl _ _ | assumption | refine below_drewN ?_ _ | refine Below.drew ?_ | refine Below.setCell ?_ (by first | omega | (simp; done) | (simp; omega)) _ | refine Below.alloc ?_ (by first | omega | (simp; done) | (simp; omega)) _))) ((HEX.out _ HL15.out).2.1.below (by repeat (first | exact Below.refl _ _ | assumption | refine below_drewN ?_ _ | refine Below.drew ?_ | refine Below.setCell ?_ (by first | omega | (simp; done) | (simp; omega)) _ | refine Below.alloc ?_ (by first | omega | (simp; done) | (simp; omega)) _))).rdy HOL.out).mono ?_
      rintro e wz ⟨S, sc, rfl, hS, hb⟩
      have HS := Lib.hid hS
      have HBZ : Hid (Below w15.heap.size w15 wz) := (show Below w15.heap.size w15 _ from (by repeat (first | exact Below.refl _ _ | assumption | refine below_drewN ?_ _ | refine Below.drew ?_ | refine Below.setCell ?_ (by first | omega | (simp; done) | (simp; omega)) _ | refine Below.alloc ?_ (by first | omega | (simp; done) | (simp; omega)) _))).trans (hb.mono (by first | omega | (simp; done) | (simp; omega)))
      clear hb hS
      go_wp2_with fail
      go_meet
      exact niN_1 HS.out (by first | omega | (simp; done) | (simp; omega)) HBZ.out
    case rest =>
      obtain ⟨w16, pK, S16, sc16, hw16, rfl, rfl, hnn, hb⟩ := hcut
      subst hw16
      have hz16 := hb.size
      have HNK16 := Lib.hid hnn
      have HB16 := Lib.hid hb
      clear hb hnn
      have HNA16 := Lib.hid (HNA15.out.below HB16.out)
      have HNN16 := Lib.hid (HNN15.out.below HB16.out)
      have HNM16 := Lib.hid (HNM15.out.below HB16.out)
      have HNW16 := Lib.hid (HNW15.out.below HB16.out)
      have HBD16 := Lib.hid (HBD15.out.below HB16.out)
      have HL16 : Hid (Below lo w4 w16) := HL15.out.trans (HB16.out.mono hlo15)
      go_step
      exact ltop_27 HEX.out HNK.out hlo4 hz5 hz6 hz7 hz12 hz13 hz14 hz15 hz16 (by omega) HT2.out HBD16.out HNA16.out HNN16.out HNM16.out HNW16.out HNK16.out HL16.out

end Go.Proofs.YtmpbhngjkbidcaaGreatDoor

/-
  TopPublished, a piece of its walk: the alert that was read again; a draft above the limit; the withdrawal
-/
namespace Go.Proofs.YtmpbhngjkbidcaaGreatDoor
open Go.RowKit Al

set_option maxRecDepth 100000 in
set_option maxHeartbeats 16000000 in
theorem ltop_15 {w w4 : World} {lo qb qo rb cc kc : Nat} {g limit p1 p2 p3 xn xo : Int} {CL : List Int} {CA K : Option Addr} {bb ll qc : Nat} {w5 w6 w10 : World} {n7 n9 pA pN pB c1 c2 sc6 : Nat} {A1 A2 S6 : Option Addr} {T1 : Nat → Prop} {u0 u2 u8 u9 u14 u16 u17 u18 u19 u20 u21 u22 u23 u24 u25 u26 u27 u28 u29 u30 u31 u32 u33 u34 u35 u36 u37 u38 u39 u40 u41 u42 u43 u44 u45 u46 u47 u48 u49 u50 u51 u52 u53 u54 u55 u56 u57 u58 u59 u60 u61 u62 u63 u64 u65 u66 u67 u68 u69 u70 u71 u72 u73 u74 u75 u76 u77 u78 u79 u80 u81 u82 u83 u84 u85 u86 u87 u88 u89 u90 u91 u92 u93 u94 u95 u96 u97 u98 u99 u100 u101 u102 u103 u104 u105 u106 u107 u108 u109 u110 u111 u112 u113 u114 u115 u116 u117 u118 u119 u120 u121 u122 u123 u124 u125 u126 u127 u128 u129 u130 u131 u132 u133 u134 u135 u136 u137 u138 u139 u140 u141 u142 u143 u144 u145 u146 u147 u148 u149 u150 u151 u152 u153 u154 u155 u156 u157 u158 u159 u160 u161 u162 u163 u164 u165 u166 u167 u168 u169 u170 u171 u172 u173 u174 u175 u176 u177 u178 u179 u180 u181 u182 u183 u184 u185 u186 u187 u188 u189 u190 u191 u192 u193 u194 u195 u196 u197 u198 u199 u200 u201 u202 u203 u204 u205 u206 u207 u208 u209 u210 u211 u212 u213 u214 u215 u216 u217 u218 u219 u220 u221 u222 u223 u224 u225 u226 u227 u228 u229 u230 u231 u232 u233 u234 u235 u236 u237 u238 u239 u240 u241 u242 u243 u244 u245 u246 u247 u248 u249 u250 u251 u252 u253 u254 u255 u256 u257 u258 u259 u260 u261 u262 u263 u264 : Value} (hEX : TpEx w w4 lo qb qo rb g limit p1 p2 p3 xn xo CL CA cc K kc) (hNK : NightOk xn xo g CL) (hlo4 : lo ≤ w4.heap.size) (hz5 : w4.heap.size ≤ w5.heap.size) (hz6 : w5.heap.size ≤ w6.heap.size) (hz7 : w6.heap.size ≤ n7) (hz10 : n7 ≤ w10.heap.size) (hlo10 : lo ≤ w10.heap.size) (hll0 : 0 < ll) (hT1 : ∀ i, T1 i → lo ≤ i ∧ (i < w4.heap.size ∨ w6.heap.size ≤ i) ∧ i < n7) (hBD10 : Bd w10 T1 bb offK 2 ([] ++ [rO (tA xn xo g CL)])) (hNA10 : Nb w10 w4.heap.size w5.heap.size pA (tA xn xo g CL) A1 c1) (hNN10 : Nn w10 w5.heap.size w6.heap.size pN (rO (tA xn xo g CL)) A1 c1 S6 sc6) (hNB : Nb w10 n9 w10.heap.size pB (tA xn xo g CL) A2 c2) (hL10 : Below lo w4 w10) :
    Code.wp Tryz.prog (tpC 15) (bodyPost Tryz.prog Tryz.f4 fun e w' => e = .returned (.bool true) ∧ Below w.heap.size w w') ⟨#[u0, .pointer (some ⟨w.heap.size, 0, none⟩), u2, .slice (some ⟨qb, qo, none⟩) ll qc, .int .i64 0, .slice CA CL.length cc, .int .i64 0, .pointer (some ⟨rb, 0, none⟩), u8, u9, .pointer (some ⟨bb, 0, none⟩), .pointer (some ⟨pA, 0, none⟩), .pointer (some ⟨pN, 0, none⟩), .bool true, u14, .pointer (some ⟨pB, 0, none⟩), u16, u17, u18, u19, u20, u21, u22, u23, u24, u25, u26, u27, u28, u29, u30, u31, u32, u33, u34, u35, u36, u37, u38, u39, u40, u41, u42, u43, u44, u45, u46, u47, u48, u49, u50, u51, u52, u53, u54, u55, u56, u57, u58, u59, u60, u61, u62, u63, u64, u65, u66, u67, u68, u69, u70, u71, u72, u73, u74, u75, u76, u77, u78, u79, u80, u81, u82, u83, u84, u85, u86, u87, u88, u89, u90, u91, u92, u93, u94, u95, u96, u97, u98, u99, u100, u101, u102, u103, u104, u105, u106, u107, u108, u109, u110, u111, u112, u113, u114, u115, u116, u117, u118, u119, u120, u121, u122, u123, u124, u125, u126, u127, u128, u129, u130, u131, u132, u133, u134, u135, u136, u137, u138, u139, u140, u141, u142, u143, u144, u145, u146, u147, u148, u149, u150, u151, u152, u153, u154, u155, u156, u157, u158, u159, u160, u161, u162, u163, u164, u165, u166, u167, u168, u169, u170, u171, u172, u173, u174, u175, u176, u177, u178, u179, u180, u181, u182, u183, u184, u185, u186, u187, u188, u189, u190, u191, u192, u193, u194, u195, u196, u197, u198, u199, u200, u201, u202, u203, u204, u205, u206, u207, u208, u209, u210, u211, u212, u213, u214, u215, u216, u217, u218, u219, u220, u221, u222, u223, u224, u225, u226, u227, u228, u229, u230, u231, u232, u233, u234, u235, u236, u237, u238, u239, u240, u241, u242, u243, u244, u245, u246, u247, u248, u249, u250, u251, u252, u253, u254, u255, u256, u257, u258, u259, u260, u261, u262, u263, u264], []⟩ w10 := by
  have HEX := Lib.hid hEX
  have HNK := Lib.hid hNK
  have HES : Hid (s1.size ≤ maxLen) := Lib.hid (by decide)
  have HOA : Hid (okA (tA xn xo g CL) = true) := tA_ok HNK.out
  have HT1 := Lib.hid hT1
  have HBD10 := Lib.hid hBD10
  have HNA10 := Lib.hid hNA10
  have HNN10 := Lib.hid hNN10
  have HNB := Lib.hid hNB
  have HL10 := Lib.hid hL10
  clear hEX hNK hT1 hBD10 hNA10 hNN10 hNB hL10
  unfold TpEx at HEX
  conv => arg 2; whnf
  try dsimp only
  have hll3 : (0 : Int) < (ll : Int) := by omega
  obtain ⟨d0, d1, d2, d3, d4, d5, d6, d7, d8⟩ := HNA10.out.cells
  obtain ⟨e0, e1, e2, e3, e4, e5, e6, e7, e8⟩ := HNB.out.cells
  simp only [tA] at d0 d1 d2 d3 d4 d5 d6 d7 d8 e0 e1 e2 e3 e4 e5 e6 e7 e8
  have hpa := HNA10.out.p3
  have hpb := HNB.out.p3
  go_wp2_with fail
  refine (pSame_ (tA xn xo g CL) (tA xn xo g CL) A1 c1 A2 c2 _ (HNA10.out.ain.below (by repeat (first | exact Below.refl _ _ | assumption | refine below_drewN ?_ _ | refine Below.drew ?_ | refine Below.setCell ?_ (by first | omega | (simp; done) | (simp; omega)) _ | refine Below.alloc ?_ (by first | omega | (simp; done) | (simp; omega)) _))) (HNB.out.ain.below (by repeat (first | exact Below.refl _ _ | assumption | refine below_drewN ?_ _ | refine Below.drew ?_ | refine Below.setCell ?_ (by first | omega | (simp; done) | (simp; omega)) _ | refine Below.alloc ?_ (by first | omega | (simp; done) | (simp; omega)) _))) true (sameB_refl _)).mono ?_
  rintro e w11 ⟨rfl, hb⟩
  have HB11 : Hid (Below w10.heap.size w10 w11) := (show Below w10.heap.size w10 _ from (by repeat (first | exact Below.refl _ _ | assumption | refine below_drewN ?_ _ | refine Below.drew ?_ | refine Below.setCell ?_ (by first | omega | (simp; done) | (simp; omega)) _ | refine Below.alloc ?_ (by first | omega | (simp; done) | (simp; omega)) _))).trans (hb.mono (by first | omega | (simp; done) | (simp; omega)))
  have hz11 := HB11.out.size
  have HL11 : Hid (Below lo w4 w11) := HL10.out.trans (HB11.out.mono (by omega))
  have HNA11 := Lib.hid (HNA10.out.below HB11.out)
  have HB1011 := HB11
  clear hb d0 d1 d2 d3 d4 d5 d6 d7 d8 e0 e1 e2 e3 e4 e5 e6 e7 e8 HNB HNA10 HB11 HL10
  go_upto_region 17 with fail
  obtain ⟨xm, hxm⟩ : ∃ xm, xn - 1 = xm := ⟨_, rfl⟩
  have HD4 : Hid (draftR s1 10 xn xo xm g CL = (Al.zero, 4)) := by
    have h := tDraft_no xn xo g CL
    rw [hxm] at h
    exact h
  have hwr : IntKind.i64.wrap (xn - 1) = xm := by
    rw [IntWalk.i64_in _ (by obtain ⟨h1, h2, h3, -⟩ := HNK.out; omega)]
    exact hxm
  have hlo11 : lo ≤ w11.heap.size := by omega
  have HSL11 : Hid (∀ W, Below w11.heap.size w11 W → Sl W W.heap.size 1 CA CL.length cc (ints CL)) := fun W hW => ((HEX.out _ (HL11.out.trans (hW.mono hlo11))).1.cl).more (Nat.le_trans hlo11 hW.size)
  clear hxm
  go_cut [16, 17] from 26 (fun _ s17 wx => NiK w11 4 s17 wx)
  case first =>
    obtain ⟨y6, -, c0, c1', c2', c3, c4, -, -, -, -, xl, ql, -, -⟩ := (HEX.out _ HL11.out).1
    have hqw : qb < w11.heap.size := by omega
    have hxw : w.heap.size < w11.heap.size := by omega
    have DC : Below w11.heap.size w11 w11 := Below.refl _ _
    go_region_held3 (fun w' => ∀ b o, b < w11.heap.size → w'.cell? ⟨b, o, none⟩ = w11.cell? ⟨b, o, none⟩) (first | exact fun b o h => (Below.trans DC (show Below w11.heap.size _ _ from (by repeat (first | with_reducible exact Below.refl _ _ | with_reducible assumption | (with_reducible refine Below.setCell ?_ (by first | omega | (simp; done) | (simp; omega)) _) | (with_reducible refine Below.alloc ?_ (by first | omega | (simp; done) | (simp; omega)) _) | with_reducible refine Below.drew ?_ | with_reducible refine below_drewN ?_ _)))).cell (p := ⟨b, o, none⟩) h | exact kN | exact fun b o h => rfl)
      (first
                  | (go_at_call 11; refine (Draft_l s1 10 p1 p2 p3 xn xo xm g CL CA cc Al.zero 4 _ rfl HD4.out HES.out (HSL11.out _ (Below.trans DC (by (repeat (first | exact Below.refl _ _ | assumption | refine below_drewN ?_ _ | refine Below.drew ?_ | refine Below.setCell ?_ (by first | omega | (simp; done) | (simp; omega)) _ | refine Below.alloc ?_ (by first | omega | (simp; done) | (simp; omega)) _)))))).mono ?_; rintro e wm ⟨DA, dc, rfl, dr, hbn⟩; (first | (with_reducible have bx0 := bx_callD (wn := w11) hbn) | (with_reducible have bx0 := bx_callA (wn := w11) hbn)); have bx := bx0 rfl; clear bx0; obtain ⟨⟨e0, e1, e2, e3, e4, e5, e6, e7, e8⟩, g0, g1, g2, g3, g4, g5, g6, g7, g8⟩ := bx_facts bx; have HBX2 := Lib.hid bx; clear bx; have HDR := Lib.hid dr; have HBN := Lib.hid hbn; have sC := hbn.size; (try simp at sC); have DC := Below.trans DC (Below.trans (show Below w11.heap.size _ _ from (by (repeat (first | exact Below.refl _ _ | assumption | refine below_drewN ?_ _ | refine Below.drew ?_ | refine Below.setCell ?_ (by first | omega | (simp; done) | (simp; omega)) _ | refine Below.alloc ?_ (by first | omega | (simp; done) | (simp; omega)) _)))) (hbn.mono (by first | omega | (simp; done) | (simp; omega)))); have kN := (fun b o (h : b < w11.heap.size) => DC.cell (p := ⟨b, o, none⟩) h); clear hbn; clear dr)
                  | (go_at_call 11; refine (Draft_l s1 10 p1 p2 p3 xn xo xm g CL CA cc Al.zero 4 _ rfl HD4.out HES.out (HSL11.out _ (Below.trans DC (by (repeat (first | exact Below.refl _ _ | assumption | refine below_drewN ?_ _ | refine Below.drew ?_ | refine Below.setCell ?_ (by first | omega | (simp; done) | (simp; omega)) _ | refine Below.alloc ?_ (by first | omega | (simp; done) | (simp; omega)) _)))))).mono ?_; rintro e wm ⟨DA, dc, rfl, dr, hbn⟩; have HDR := Lib.hid dr; have HBN := Lib.hid hbn; have sC := hbn.size; (try simp at sC); have DC := Below.trans DC (Below.trans (show Below w11.heap.size _ _ from (by (repeat (first | exact Below.refl _ _ | assumption | refine below_drewN ?_ _ | refine Below.drew ?_ | refine Below.setCell ?_ (by first | omega | (simp; done) | (simp; omega)) _ | refine Below.alloc ?_ (by first | omega | (simp; done) | (simp; omega)) _)))) (hbn.mono (by first | omega | (simp; done) | (simp; omega)))); have kN := (fun b o (h : b < w11.heap.size) => DC.cell (p := ⟨b, o, none⟩) h); clear hbn; clear dr))
    · go_wp2_with fail
      go_meet
      exact NiA.k (w6 := w11) (niA_1 HDR.out (Nat.le_refl _) (Below.trans (Below.refl w11.heap.size w11) (DC.mono (Nat.le_refl _))) (by decide))
    · go_wp2_with fail
      go_meet
      exact NiA.k (w6 := w11) (niA_2 (HBX2.out.store Al.zero DA dc) HDR.out (by simp) (kp_store _ _ Al.zero DA dc) (Below.refl w11.heap.size w11) DC (by decide))
  case rest =>
    obtain ⟨w12, hw12, rfl, hb⟩ := hcut
    subst hw12
    have hz12 := hb.size
    have HNA12 := Lib.hid (HNA11.out.below hb)
    have HL12 : Hid (Below lo w4 w12) := HL11.out.trans (hb.mono hlo11)
    have HB1012 : Hid (Below w10.heap.size w10 w12) := HB1011.out.trans (hb.mono (by omega))
    have hlo12 : lo ≤ w12.heap.size := by omega
    have HWI : Hid (witR (tA xn xo g CL) 12 = (tW (tA xn xo g CL), 0)) := tWith HOA.out
    clear hb HNA11 HB1011 HL11 HSL11 HD4 hwr
    go_upto_region 20 with fail
    go_cut [18, 4] from 26 (fun s18 s4 wx => NiA w12 (tW (tA xn xo g CL)) s18 s4 wx)
    case first =>
      obtain ⟨d0, d1, d2, d3, d4, d5, d6, d7, d8⟩ := HNA12.out.cells
      simp only [tA] at d0 d1 d2 d3 d4 d5 d6 d7 d8
      have hpa := HNA12.out.p3
      go_wp2_with fail
      refine (Withdraw_is (tA xn xo g CL) A1 c1 12 (tW (tA xn xo g CL)) 0 _ HWI.out (HNA12.out.ain.below (by repeat (first | exact Below.refl _ _ | assumption | refine below_drewN ?_ _ | refine Below.drew ?_ | refine Below.setCell ?_ (by first | omega | (simp; done) | (simp; omega)) _ | refine Below.alloc ?_ (by first | omega | (simp; done) | (simp; omega)) _))) ((HEX.out _ HL12.out).2.1.below (by repeat (first | exact Below.refl _ _ | assumption | refine below_drewN ?_ _ | refine Below.drew ?_ | refine Below.setCell ?_ (by first | omega | (simp; done) | (simp; omega)) _ | refine Below.alloc ?_ (by first | omega | (simp; done) | (simp; omega)) _))).rdy).mono ?_
      rintro e wz ⟨A3, c3, rfl, dr, hb⟩
      have HDR := Lib.hid dr
      have HBZ : Hid (Below w12.heap.size w12 wz) := (show Below w12.heap.size w12 _ from (by repeat (first | exact Below.refl _ _ | assumption | refine below_drewN ?_ _ | refine Below.drew ?_ | refine Below.setCell ?_ (by first | omega | (simp; done) | (simp; omega)) _ | refine Below.alloc ?_ (by first | omega | (simp; done) | (simp; omega)) _))).trans (hb.mono (by first | omega | (simp; done) | (simp; omega)))
      clear hb dr d0 d1 d2 d3 d4 d5 d6 d7 d8
      go_wp2_with fail
      go_meet
      exact niA_1 HDR.out (Nat.le_refl _) HBZ.out HES.out
    case rest =>
      obtain ⟨w13, pW, A3, c3, hw13, rfl, rfl, hnb, hb⟩ := hcut
      subst hw13
      have hz13 := hb.size
      have HNW13 := Lib.hid hnb
      have HNA13 := Lib.hid (HNA12.out.below hb)
      have HL13 : Hid (Below lo w4 w13) := HL12.out.trans (hb.mono hlo12)
      have HB1013 : Hid (Below w10.heap.size w10 w13) := HB1012.out.trans (hb.mono (by omega))
      have HNN13 := Lib.hid (HNN10.out.below HB1013.out)
      have HBD13 := Lib.hid (HBD10.out.below HB1013.out)
      go_step
      exact ltop_21 HEX.out HNK.out hlo4 hz5 hz6 hz7 (by omega) hz13 (by omega) HT1.out HBD13.out HNA13.out HNN13.out HNW13.out HL13.out

end Go.Proofs.YtmpbhngjkbidcaaGreatDoor
