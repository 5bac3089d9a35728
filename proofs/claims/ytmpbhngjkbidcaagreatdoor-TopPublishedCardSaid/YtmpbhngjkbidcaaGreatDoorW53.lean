/-
  TopPublished, a piece of its walk: the alert, posted, printed and read again
-/
import Derived.Test.YtmpbhngjkbidcaaGreatDoorW52
import Derived.Test.YtmpbhngjkbidcaaGreatDoorW50
import Derived.Test.YtmpbhngjkbidcaaGreatDoorW44
import Derived.Test.YtmpbhngjkbidcaaGreatDoorW23
import Derived.Deep.RegionHeld3
namespace Go.Proofs.YtmpbhngjkbidcaaGreatDoor
open Go.RowKit Al

set_option maxRecDepth 100000 in
set_option maxHeartbeats 16000000 in
theorem ltop_11 {w w4 : World} {lo qb qo rb cc kc : Nat} {g limit p1 p2 p3 xn xo : Int} {CL : List Int} {CA K : Option Addr} {bb ll qc : Nat} {w5 w6 : World} {pA pN c1 sc6 : Nat} {A1 S6 : Option Addr} {T0 : Nat → Prop} {u0 u2 u6 u8 u9 u14 u15 u16 u17 u18 u19 u20 u21 u22 u23 u24 u25 u26 u27 u28 u29 u30 u31 u32 u33 u34 u35 u36 u37 u38 u39 u40 u41 u42 u43 u44 u45 u46 u47 u48 u49 u50 u51 u52 u53 u54 u55 u56 u57 u58 u59 u60 u61 u62 u63 u64 u65 u66 u67 u68 u69 u70 u71 u72 u73 u74 u75 u76 u77 u78 u79 u80 u81 u82 u83 u84 u85 u86 u87 u88 u89 u90 u91 u92 u93 u94 u95 u96 u97 u98 u99 u100 u101 u102 u103 u104 u105 u106 u107 u108 u109 u110 u111 u112 u113 u114 u115 u116 u117 u118 u119 u120 u121 u122 u123 u124 u125 u126 u127 u128 u129 u130 u131 u132 u133 u134 u135 u136 u137 u138 u139 u140 u141 u142 u143 u144 u145 u146 u147 u148 u149 u150 u151 u152 u153 u154 u155 u156 u157 u158 u159 u160 u161 u162 u163 u164 u165 u166 u167 u168 u169 u170 u171 u172 u173 u174 u175 u176 u177 u178 u179 u180 u181 u182 u183 u184 u185 u186 u187 u188 u189 u190 u191 u192 u193 u194 u195 u196 u197 u198 u199 u200 u201 u202 u203 u204 u205 u206 u207 u208 u209 u210 u211 u212 u213 u214 u215 u216 u217 u218 u219 u220 u221 u222 u223 u224 u225 u226 u227 u228 u229 u230 u231 u232 u233 u234 u235 u236 u237 u238 u239 u240 u241 u242 u243 u244 u245 u246 u247 u248 u249 u250 u251 u252 u253 u254 u255 u256 u257 u258 u259 u260 u261 u262 u263 u264 : Value} (hEX : TpEx w w4 lo qb qo rb g limit p1 p2 p3 xn xo CL CA cc K kc) (hNK : NightOk xn xo g CL) (hlo4 : lo ≤ w4.heap.size) (hz5 : w4.heap.size ≤ w5.heap.size) (hz6 : w5.heap.size ≤ w6.heap.size) (hll0 : 0 < ll) (hT0 : ∀ i, T0 i → lo ≤ i ∧ i < w4.heap.size) (hBD6 : Bd w6 T0 bb offK 2 []) (hNA6 : Nb w6 w4.heap.size w5.heap.size pA (tA xn xo g CL) A1 c1) (hNN : Nn w6 w5.heap.size w6.heap.size pN (rO (tA xn xo g CL)) A1 c1 S6 sc6) (hL6 : Below lo w4 w6) :
    Code.wp Tryz.prog (tpC 11) (bodyPost Tryz.prog Tryz.f4 fun e w' => e = .returned (.bool true) ∧ Below w.heap.size w w') ⟨#[u0, .pointer (some ⟨w.heap.size, 0, none⟩), u2, .slice (some ⟨qb, qo, none⟩) ll qc, .int .i64 0, .slice CA CL.length cc, u6, .pointer (some ⟨rb, 0, none⟩), u8, u9, .pointer (some ⟨bb, 0, none⟩), .pointer (some ⟨pA, 0, none⟩), .pointer (some ⟨pN, 0, none⟩), .bool true, u14, u15, u16, u17, u18, u19, u20, u21, u22, u23, u24, u25, u26, u27, u28, u29, u30, u31, u32, u33, u34, u35, u36, u37, u38, u39, u40, u41, u42, u43, u44, u45, u46, u47, u48, u49, u50, u51, u52, u53, u54, u55, u56, u57, u58, u59, u60, u61, u62, u63, u64, u65, u66, u67, u68, u69, u70, u71, u72, u73, u74, u75, u76, u77, u78, u79, u80, u81, u82, u83, u84, u85, u86, u87, u88, u89, u90, u91, u92, u93, u94, u95, u96, u97, u98, u99, u100, u101, u102, u103, u104, u105, u106, u107, u108, u109, u110, u111, u112, u113, u114, u115, u116, u117, u118, u119, u120, u121, u122, u123, u124, u125, u126, u127, u128, u129, u130, u131, u132, u133, u134, u135, u136, u137, u138, u139, u140, u141, u142, u143, u144, u145, u146, u147, u148, u149, u150, u151, u152, u153, u154, u155, u156, u157, u158, u159, u160, u161, u162, u163, u164, u165, u166, u167, u168, u169, u170, u171, u172, u173, u174, u175, u176, u177, u178, u179, u180, u181, u182, u183, u184, u185, u186, u187, u188, u189, u190, u191, u192, u193, u194, u195, u196, u197, u198, u199, u200, u201, u202, u203, u204, u205, u206, u207, u208, u209, u210, u211, u212, u213, u214, u215, u216, u217, u218, u219, u220, u221, u222, u223, u224, u225, u226, u227, u228, u229, u230, u231, u232, u233, u234, u235, u236, u237, u238, u239, u240, u241, u242, u243, u244, u245, u246, u247, u248, u249, u250, u251, u252, u253, u254, u255, u256, u257, u258, u259, u260, u261, u262, u263, u264], []⟩ w6 := by
  have HEX := Lib.hid hEX
  have HNK := Lib.hid hNK
  have HES : Hid (s1.size ≤ maxLen) := Lib.hid (by decide)
  have HOA : Hid (okA (tA xn xo g CL) = true) := tA_ok HNK.out
  have HT0 := Lib.hid hT0
  have HBD6 := Lib.hid hBD6
  have HNA6 := Lib.hid hNA6
  have HNN := Lib.hid hNN
  have HL6 := Lib.hid hL6
  clear hEX hNK hT0 hBD6 hNA6 hNN hL6
  unfold TpEx at HEX
  conv => arg 2; whnf
  try dsimp only
  have hll3 : (0 : Int) < (ll : Int) := by omega
  go_upto_region 11 with fail
  have t1 : ¬ T0 pA := fun h => by have := (HT0.out _ h).2; have := HNN.out.p1; have := HNA6.out.p1; omega
  have t2 : ¬ T0 pN := fun h => by have := (HT0.out _ h).2; have := HNN.out.p1; omega
  have t3 : ¬ T0 qb := fun h => by have := (HT0.out _ h).1; have := (HEX.out _ HL6.out).1.ql; omega
  have p1' := HNA6.out.p3
  have p2' := HNN.out.p3
  have p3' : qb < w6.heap.size := by have := (HEX.out _ HL6.out).1.ql; omega
  have hlo6 : lo ≤ w6.heap.size := by omega
  obtain ⟨n0, n1, n2, n3, n4, n5, n6, n7, n8, n9⟩ := HNN.out.cells
  obtain ⟨-, -, -, d3, d4, -, d6, -, -⟩ := HNA6.out.cells
  simp only [rO, tA] at n0 n1 n2 n3 n4 n5 n6 n7 n8 n9 d3 d4 d6
  have c3 := (HEX.out _ HL6.out).1.c3
  have c4 := (HEX.out _ HL6.out).1.c4
  have DK : Kp T0 w6 w6 := Kp.refl _ _
  go_region_held3 (fun w' => ∀ b o, ¬ T0 b → b < w6.heap.size → w'.cell? ⟨b, o, none⟩ = w6.cell? ⟨b, o, none⟩) (first | exact kN | exact fun b o _ h => rfl)
    (first
      | (go_at_call 21; refine (oPost_ T0 bb [] (rO (tA xn xo g CL)) A1 c1 S6 sc6 0 _ (HBD6.out.below (by (repeat (first | exact Below.refl _ _ | assumption | refine below_drewN ?_ _ | refine Below.drew ?_ | refine Below.setCell ?_ (by first | omega | (simp; done) | (simp; omega)) _ | refine Below.alloc ?_ (by first | omega | (simp; done) | (simp; omega)) _)))) ((HNN.out.nin HNA6.out.ain).below (by (repeat (first | exact Below.refl _ _ | assumption | refine below_drewN ?_ _ | refine Below.drew ?_ | refine Below.setCell ?_ (by first | omega | (simp; done) | (simp; omega)) _ | refine Below.alloc ?_ (by first | omega | (simp; done) | (simp; omega)) _)))) ((HEX.out _ HL6.out).2.1.below (by (repeat (first | exact Below.refl _ _ | assumption | refine below_drewN ?_ _ | refine Below.drew ?_ | refine Below.setCell ?_ (by first | omega | (simp; done) | (simp; omega)) _ | refine Below.alloc ?_ (by first | omega | (simp; done) | (simp; omega)) _)))).rdy ((HNA6.out.al.keep (F := fun _ => False) (Kp.of_below (by (repeat (first | exact Below.refl _ _ | assumption | refine below_drewN ?_ _ | refine Below.drew ?_ | refine Below.setCell ?_ (by first | omega | (simp; done) | (simp; omega)) _ | refine Below.alloc ?_ (by first | omega | (simp; done) | (simp; omega)) _)))) (fun _ _ f => f)).mono (fun i hi ht => by have := (HT0.out i ht).2; omega)) (tPost1 HOA.out)).mono ?_; rintro e w7 ⟨rfl, hbd, hkp⟩; have DK := DK.trans ((Kp.of_below (F := T0) (show Below w6.heap.size w6 _ from (by (repeat (first | exact Below.refl _ _ | assumption | refine below_drewN ?_ _ | refine Below.drew ?_ | refine Below.setCell ?_ (by first | omega | (simp; done) | (simp; omega)) _ | refine Below.alloc ?_ (by first | omega | (simp; done) | (simp; omega)) _))))).trans hkp (fun i _ h => h)) (fun i _ h => h); have kN := (fun b o (ht : ¬ T0 b) (h : b < w6.heap.size) => DK.cell (p := ⟨b, o, none⟩) h ht); have HBD7 := Lib.hid hbd; have HDK := Lib.hid DK; have hz7 := DK.size; clear hbd hkp)
      | (go_at_call 12; refine (SameInts_is CL CL A1 c1 CA cc _ true (by simp) (((HNA6.out.keep HDK.out (fun i h1 h2 ht => by have := (HT0.out i ht).2; omega)).ain.below (by (repeat (first | exact Below.refl _ _ | assumption | refine below_drewN ?_ _ | refine Below.drew ?_ | refine Below.setCell ?_ (by first | omega | (simp; done) | (simp; omega)) _ | refine Below.alloc ?_ (by first | omega | (simp; done) | (simp; omega)) _)))).sl) (((HEX.out _ (HL6.out.trans (HDK.out.below hlo6 (fun i hi => (HT0.out i hi).1)))).1.cl.more (Nat.le_trans hlo6 hz7)).below (by (repeat (first | exact Below.refl _ _ | assumption | refine below_drewN ?_ _ | refine Below.drew ?_ | refine Below.setCell ?_ (by first | omega | (simp; done) | (simp; omega)) _ | refine Below.alloc ?_ (by first | omega | (simp; done) | (simp; omega)) _))) |>.more (by simp))).mono ?_; rintro e w8 ⟨rfl, hb8⟩; have HB78 : Hid (Below w7.heap.size w7 w8) := (show Below w7.heap.size w7 _ from (by (repeat (first | exact Below.refl _ _ | assumption | refine below_drewN ?_ _ | refine Below.drew ?_ | refine Below.setCell ?_ (by first | omega | (simp; done) | (simp; omega)) _ | refine Below.alloc ?_ (by first | omega | (simp; done) | (simp; omega)) _)))).trans (hb8.mono (by first | omega | (simp; done) | (simp; omega))); have DK := DK.then_below HB78.out; have kN := (fun b o (ht : ¬ T0 b) (h : b < w6.heap.size) => DK.cell (p := ⟨b, o, none⟩) h ht); clear hb8))
  clear n0 n1 n2 n3 n4 n5 n6 n7 n8 n9 d3 d4 d6 c3 c4 DK kN t1 t2 t3 p1' p2' p3'
  have hpn : postN offK 2 [] (rO (tA xn xo g CL)) = [] ++ [rO (tA xn xo g CL)] := postN_0 (tPost1 HOA.out)
  have hz8 := HB78.out.size
  obtain ⟨T1, hT1⟩ : ∃ T : Nat → Prop, (fun i => (T0 i ∨ w6.heap.size ≤ i) ∧ i < w7.heap.size) = T := ⟨_, rfl⟩
  have HBD8 : Hid (Bd w8 T1 bb offK 2 ([] ++ [rO (tA xn xo g CL)])) := by
    have h := HBD7.out.below HB78.out
    rw [hpn] at h
    exact h.mono (fun i hi => by rw [← hT1]; exact hi)
  have HT1 : Hid (∀ i, T1 i → lo ≤ i ∧ (i < w4.heap.size ∨ w6.heap.size ≤ i) ∧ i < w7.heap.size) := fun i hi => by
    rw [← hT1] at hi
    exact ⟨hi.1.elim (fun h => (HT0.out i h).1) (fun h => Nat.le_trans hlo6 h), hi.1.imp (fun h => (HT0.out i h).2) id, hi.2⟩
  have HNA8 := Lib.hid ((HNA6.out.keep HDK.out (fun i h1 h2 ht => by have := (HT0.out i ht).2; omega)).below HB78.out)
  have HNN8 := Lib.hid ((HNN.out.keep HDK.out (fun i h1 h2 ht => by have := (HT0.out i ht).2; omega)).below HB78.out)
  have hlo8 : lo ≤ w8.heap.size := by omega
  have HL8 : Hid (Below lo w4 w8) := (HL6.out.trans (HDK.out.below hlo6 (fun i hi => (HT0.out i hi).1))).trans (HB78.out.mono (by omega))
  clear hpn hT1 HBD7 HDK HB78 HNA6 HNN HBD6 HL6
  obtain ⟨d0, d1, d2, d3, d4, d5, d6, d7, d8⟩ := HNA8.out.cells
  simp only [tA] at d0 d1 d2 d3 d4 d5 d6 d7 d8
  have hpa := HNA8.out.p3
  obtain ⟨tx, htx⟩ : ∃ t, txS (tA xn xo g CL) = t := ⟨_, rfl⟩
  have HPR : Hid (printR (tA xn xo g CL) = (tx, 0)) := by
    have h := printR_t HOA.out
    rw [htx] at h
    exact h
  have HPB : Hid (parseR parseB tx.data.toList = ((tA xn xo g CL), 0)) := by
    have h := parse_back HOA.out
    rw [htx] at h
    exact h
  have HTM : Hid (tx.size ≤ maxLen) := by
    have h := txS_max HOA.out
    rw [htx] at h
    exact h
  clear htx
  go_wp2_with fail
  refine (Print_v (tA xn xo g CL) A1 c1 _ tx 0 HPR.out (HNA8.out.ain.below (by repeat (first | exact Below.refl _ _ | assumption | refine below_drewN ?_ _ | refine Below.drew ?_ | refine Below.setCell ?_ (by first | omega | (simp; done) | (simp; omega)) _ | refine Below.alloc ?_ (by first | omega | (simp; done) | (simp; omega)) _))) ((HEX.out _ HL8.out).2.1.below (by repeat (first | exact Below.refl _ _ | assumption | refine below_drewN ?_ _ | refine Below.drew ?_ | refine Below.setCell ?_ (by first | omega | (simp; done) | (simp; omega)) _ | refine Below.alloc ?_ (by first | omega | (simp; done) | (simp; omega)) _))).rdy).mono ?_
  rintro e w9 ⟨rfl, hb⟩
  have HB9 : Hid (Below w8.heap.size w8 w9) := (show Below w8.heap.size w8 _ from (by repeat (first | exact Below.refl _ _ | assumption | refine below_drewN ?_ _ | refine Below.drew ?_ | refine Below.setCell ?_ (by first | omega | (simp; done) | (simp; omega)) _ | refine Below.alloc ?_ (by first | omega | (simp; done) | (simp; omega)) _))).trans (hb.mono (by first | omega | (simp; done) | (simp; omega)))
  have hz9 := HB9.out.size
  have HL9 : Hid (Below lo w4 w9) := HL8.out.trans (HB9.out.mono hlo8)
  have HNA9 := Lib.hid (HNA8.out.below HB9.out)
  clear hb d0 d1 d2 d3 d4 d5 d6 d7 d8 HNA8 HPR
  go_upto_region 14 with fail
  go_cut [15, 6] from 26 (fun s15 s6 wx => NiA w9 (tA xn xo g CL) s15 s6 wx)
  case first =>
    go_wp2_with fail
    refine (Parse_v tx _ (tA xn xo g CL) 0 HPB.out HTM.out ((HEX.out _ HL9.out).2.1.below (by repeat (first | exact Below.refl _ _ | assumption | refine below_drewN ?_ _ | refine Below.drew ?_ | refine Below.setCell ?_ (by first | omega | (simp; done) | (simp; omega)) _ | refine Below.alloc ?_ (by first | omega | (simp; done) | (simp; omega)) _)))).mono ?_
    rintro e wz ⟨A2, c2, rfl, dr, hb⟩
    have HDR := Lib.hid dr
    have HBZ : Hid (Below w9.heap.size w9 wz) := (show Below w9.heap.size w9 _ from (by repeat (first | exact Below.refl _ _ | assumption | refine below_drewN ?_ _ | refine Below.drew ?_ | refine Below.setCell ?_ (by first | omega | (simp; done) | (simp; omega)) _ | refine Below.alloc ?_ (by first | omega | (simp; done) | (simp; omega)) _))).trans (hb.mono (by first | omega | (simp; done) | (simp; omega)))
    clear hb dr
    go_wp2_with fail
    go_meet
    exact niA_1 HDR.out (Nat.le_refl _) HBZ.out HES.out
  case rest =>
    obtain ⟨w10, pB, A2, c2, hw10, rfl, rfl, hnb, hb⟩ := hcut
    subst hw10
    have HB10 := Lib.hid hb
    have hz10 := hb.size
    have HNB := Lib.hid hnb
    have HNA10 := Lib.hid (HNA9.out.below hb)
    have HL10 : Hid (Below lo w4 w10) := HL9.out.trans (hb.mono (by omega))
    have HBD10 := Lib.hid ((HBD8.out.below HB9.out).below HB10.out)
    have HNN10 := Lib.hid ((HNN8.out.below HB9.out).below HB10.out)
    go_step
    exact ltop_15 HEX.out HNK.out hlo4 hz5 hz6 hz7 (by omega) (by omega) hll0 HT1.out HBD10.out HNA10.out HNN10.out HNB.out HL10.out

end Go.Proofs.YtmpbhngjkbidcaaGreatDoor

/-
  The walk of TopPublished.
-/
namespace Go.Proofs.YtmpbhngjkbidcaaGreatDoor
open Go.RowKit Al

/-- What lies in the block of the law's argument. -/
theorem fd_box {w W : World} {a b : List Trg} {A B N R : Option Addr} {ca cb nc rc : Nat} {live window step g limit : Int} {L : List NSi} {t : List Trg} (h : Below (w.heap.size + 1) (w.alloc (.cells #[.slice A a.length ca, .slice B b.length cb, .int .i64 live, .int .i64 window, .int .i64 step, .slice N L.length nc, .int .i64 g, .slice R t.length rc, .int .i64 limit] 66)) W) :
    W.cell? ⟨w.heap.size, 5, none⟩ = some (.slice N L.length nc) ∧ W.cell? ⟨w.heap.size, 6, none⟩ = some (.int .i64 g) ∧ W.cell? ⟨w.heap.size, 7, none⟩ = some (.slice R t.length rc) ∧ W.cell? ⟨w.heap.size, 8, none⟩ = some (.int .i64 limit) := by
  have e := fun j => h.cell (p := ⟨w.heap.size, j, none⟩) (Nat.lt_succ_self _)
  refine ⟨?_, ?_, ?_, ?_⟩ <;> (rw [e]; simp [go_sem])
set_option maxRecDepth 100000 in
set_option maxHeartbeats 16000000 in
theorem ltop_ (a b : List Trg) (A B : Option Addr) (ca cb : Nat) (live window step g limit : Int) (L : List NSi) (N : Option Addr) (nc : Nat) (t : List Trg) (R : Option Addr) (rc : Nat) (w : World)
    (ha : Sl w w.heap.size 3 A a.length ca (trCells a)) (hb : Sl w w.heap.size 3 B b.length cb (trCells b)) (hL : Sl w w.heap.size 10 N L.length nc (nsCells L)) (hm : ∀ x ∈ L, x.nm.size ≤ maxLen) (ht : Sl w w.heap.size 3 R t.length rc (trCells t)) (hr : RdyP w) :
    Calls Tryz.prog 4 #[(.agg #[.slice A a.length ca, .slice B b.length cb, .int .i64 live, .int .i64 window, .int .i64 step, .slice N L.length nc, .int .i64 g, .slice R t.length rc, .int .i64 limit])] w fun e w' => e = .returned (.bool true) ∧ Below w.heap.size w w' := by
  have HA := Lib.hid ha
  have HB := Lib.hid hb
  have HL := Lib.hid hL
  have HM := Lib.hid hm
  have HT := Lib.hid ht
  have HR := Lib.hid hr
  clear ha hb hL hm ht hr
  go_enter Tryz.func4, Tryz.ntmps4
  go_wp2_with fail
  refine (candidates_ a b A B ca cb live window step limit _ ((HA.out.below (by repeat (first | exact Below.refl _ _ | assumption | refine below_drewN ?_ _ | refine Below.drew ?_ | refine Below.setCell ?_ (by first | omega | (simp; done) | (simp; omega)) _ | refine Below.alloc ?_ (by first | omega | (simp; done) | (simp; omega)) _))).more (by first | omega | (simp; done) | (simp; omega))) ((HB.out.below (by repeat (first | exact Below.refl _ _ | assumption | refine below_drewN ?_ _ | refine Below.drew ?_ | refine Below.setCell ?_ (by first | omega | (simp; done) | (simp; omega)) _ | refine Below.alloc ?_ (by first | omega | (simp; done) | (simp; omega)) _))).more (by first | omega | (simp; done) | (simp; omega)))).mono ?_
  rintro e w1 hout
  cases hout with
  | no k hk he hb1 =>
    subst he
    have HB1 : Hid (Below w.heap.size w w1) := (show Below w.heap.size w _ from (by repeat (first | exact Below.refl _ _ | assumption | refine below_drewN ?_ _ | refine Below.drew ?_ | refine Below.setCell ?_ (by first | omega | (simp; done) | (simp; omega)) _ | refine Below.alloc ?_ (by first | omega | (simp; done) | (simp; omega)) _))).trans (hb1.mono (by first | omega | (simp; done) | (simp; omega)))
    have HX1 : Hid (Below (w.heap.size + 1) (w.alloc (.cells #[.slice A a.length ca, .slice B b.length cb, .int .i64 live, .int .i64 window, .int .i64 step, .slice N L.length nc, .int .i64 g, .slice R t.length rc, .int .i64 limit] 66)) w1) := hb1.mono (by first | omega | (simp; done) | (simp; omega))
    have z1 := HX1.out.size
    simp only [World.size_alloc] at z1
    have hx1 : w.heap.size < w1.heap.size := z1
    have hk1 : (k != 0) = true := by simpa using hk
    clear hb1
    obtain ⟨y5, y6, y7, y8⟩ := fd_box HX1.out
    go_wp2_with fail
    obtain ⟨N6, hN6⟩ := sq_nat g
    refine (fits_ L N R nc rc g t _ ((HL.out.below HB1.out).more (by first | omega | (simp; done) | (simp; omega))) HM.out ((HT.out.below HB1.out).more (by first | omega | (simp; done) | (simp; omega))) N6 hN6).mono ?_
    rintro e w2 ⟨sv, rfl, ho2, hb2⟩
    have HB2 : Hid (Below w.heap.size w w2) := HB1.out.trans (hb2.mono (by omega))
    have hx2 : w.heap.size < w2.heap.size := by have := hb2.size; omega
    clear hb2 y5 y6 y7 y8 ho2
    go_wp2_with fail
    refine (posted_ _ (HR.out.below HB2.out).rdy).mono ?_
    rintro e wE ⟨rfl, hb⟩
    have HBE : Hid (Below w.heap.size w wE) := (HB2.out).trans (hb.mono (HB2.out).size)
    clear hb
    go_wp2_with fail
    go_ret
    exact ⟨rfl, HBE.out⟩
  | ok q hq hq2 hlim hc l hl Q qc he ho hb1 =>
    subst he
    have HB1 : Hid (Below w.heap.size w w1) := (show Below w.heap.size w _ from (by repeat (first | exact Below.refl _ _ | assumption | refine below_drewN ?_ _ | refine Below.drew ?_ | refine Below.setCell ?_ (by first | omega | (simp; done) | (simp; omega)) _ | refine Below.alloc ?_ (by first | omega | (simp; done) | (simp; omega)) _))).trans (hb1.mono (by first | omega | (simp; done) | (simp; omega)))
    have HX1 : Hid (Below (w.heap.size + 1) (w.alloc (.cells #[.slice A a.length ca, .slice B b.length cb, .int .i64 live, .int .i64 window, .int .i64 step, .slice N L.length nc, .int .i64 g, .slice R t.length rc, .int .i64 limit] 66)) w1) := hb1.mono (by first | omega | (simp; done) | (simp; omega))
    have HO1 := Lib.hid ho
    have HCL := Lib.hid hl
    have HLM := Lib.hid hlim
    have z1 := HX1.out.size
    simp only [World.size_alloc] at z1
    have hx1 : w.heap.size < w1.heap.size := z1
    clear hb1 ho hl hq hc hlim
    obtain ⟨y5, y6, y7, y8⟩ := fd_box HX1.out
    go_wp2_with fail
    obtain ⟨N6, hN6⟩ := sq_nat g
    refine (fits_ L N R nc rc g t _ ((HL.out.below HB1.out).more (by first | omega | (simp; done) | (simp; omega))) HM.out ((HT.out.below HB1.out).more (by first | omega | (simp; done) | (simp; omega))) N6 hN6).mono ?_
    rintro e w2 ⟨sv, rfl, ho2, hb2⟩
    obtain ⟨CA, cc, rfl⟩ := own_form ho2
    have HO2 := Lib.hid ho2
    have HB2 : Hid (Below w.heap.size w w2) := HB1.out.trans (hb2.mono (by omega))
    have HX2 : Hid (Below (w.heap.size + 1) (w.alloc (.cells #[.slice A a.length ca, .slice B b.length cb, .int .i64 live, .int .i64 window, .int .i64 step, .slice N L.length nc, .int .i64 g, .slice R t.length rc, .int .i64 limit] 66)) w2) := HX1.out.trans (hb2.mono (by omega))
    have HZ2 : Hid (w1.heap.size ≤ w2.heap.size) := hb2.size
    have HW12 : Hid (Below w1.heap.size w1 w2) := hb2
    have hx2 : w.heap.size < w2.heap.size := by have := HZ2.out; omega
    clear ho2 hb2 y5 y6 y7 y8
    obtain ⟨CL, hCL⟩ : ∃ CL, fitL L g t N6 = CL := ⟨_, rfl⟩
    obtain ⟨v, hv⟩ : ∃ v, fitG L g t = v := ⟨_, rfl⟩
    have HCLE := Lib.hid hCL
    have HVE := Lib.hid hv
    have HN6 := Lib.hid hN6
    rw [hCL] at HO2 ⊢
    rw [hv]
    clear hCL hv hN6
    by_cases hv0 : v = 0
    · by_cases hle : l = []
      · obtain rfl := hv0
        obtain rfl := hle
        go_wp2_with fail
        refine (posted_ _ (HR.out.below HB2.out).rdy).mono ?_
        rintro e wE ⟨rfl, hb⟩
        have HBE : Hid (Below w.heap.size w wE) := (HB2.out).trans (hb.mono (HB2.out).size)
        clear hb
        go_wp2_with fail
        go_ret
        exact ⟨rfl, HBE.out⟩
      · by_cases hce : CL = []
        · obtain rfl := hv0
          obtain rfl := hce
          have hll0 : 0 < l.length := List.length_pos_iff.2 hle
          have hll1 : ((l.length : Int) == 0) = false := by simp; omega
          have hll2 : (l.length == 0) = false := by simp; omega
          go_wp2_with fail
          refine (posted_ _ (HR.out.below HB2.out).rdy).mono ?_
          rintro e wE ⟨rfl, hb⟩
          have HBE : Hid (Below w.heap.size w wE) := (HB2.out).trans (hb.mono (HB2.out).size)
          clear hb
          go_wp2_with fail
          go_ret
          exact ⟨rfl, HBE.out⟩
        · obtain rfl := hv0
          have hll1 : ((l.length : Int) == 0) = false := by have := List.length_pos_iff.2 hle; simp; omega
          have hll0 : 0 < l.length := List.length_pos_iff.2 hle
          have hll2 : (l.length == 0) = false := by simp; omega
          have hcl0 : 0 < CL.length := List.length_pos_iff.2 hce
          have hcl1 : ((CL.length : Int) == 0) = false := by simp; omega
          have hcl2 : (CL.length == 0) = false := by simp; omega
          go_wp2_with fail
          refine (office_ _).mono ?_
          rintro e w3 ⟨K, kc, rfl, hK, hb⟩
          have HK3 := Lib.hid (Sl.of_own hK)
          have HB3 : Hid (Below w.heap.size w w3) := HB2.out.trans (hb.mono (by omega))
          have HX3 : Hid (Below (w.heap.size + 1) (w.alloc (.cells #[.slice A a.length ca, .slice B b.length cb, .int .i64 live, .int .i64 window, .int .i64 step, .slice N L.length nc, .int .i64 g, .slice R t.length rc, .int .i64 limit] 66)) w3) := HX2.out.trans (hb.mono (by omega))
          have HC3 : Hid (Below w2.heap.size w2 w3) := hb
          have hx3 : w.heap.size < w3.heap.size := by have := hb.size; omega
          clear hK hb
          go_wp2_with fail
          refine (newBoard_t offK 2 K kc _ (((HK3.out.alloc (Nat.le_refl _) _).alloc (by first | omega | (simp; done) | (simp; omega)) _).more (by first | omega | (simp; done) | (simp; omega))) off_ok).mono ?_
          rintro e w4 ⟨bb, rfl, hbb, hbd, hb⟩
          have HBD := Lib.hid hbd
          have HB4 : Hid (Below w.heap.size w w4) := HB3.out.trans ((show Below w.heap.size w3 _ from (by repeat (first | exact Below.refl _ _ | assumption | refine below_drewN ?_ _ | refine Below.drew ?_ | refine Below.setCell ?_ (by first | omega | (simp; done) | (simp; omega)) _ | refine Below.alloc ?_ (by first | omega | (simp; done) | (simp; omega)) _))).trans (hb.mono (by first | omega | (simp; done) | (simp; omega))))
          have HX4 : Hid (Below (w.heap.size + 1) (w.alloc (.cells #[.slice A a.length ca, .slice B b.length cb, .int .i64 live, .int .i64 window, .int .i64 step, .slice N L.length nc, .int .i64 g, .slice R t.length rc, .int .i64 limit] 66)) w4) := HX3.out.trans ((show Below (w.heap.size + 1) w3 _ from (by repeat (first | exact Below.refl _ _ | assumption | refine below_drewN ?_ _ | refine Below.drew ?_ | refine Below.setCell ?_ (by first | omega | (simp; done) | (simp; omega)) _ | refine Below.alloc ?_ (by first | omega | (simp; done) | (simp; omega)) _))).trans (hb.mono (by first | omega | (simp; done) | (simp; omega))))
          have hc3 := HC3.out.size
          have HC4 : Hid (Below w2.heap.size w2 w4) := HC3.out.trans ((show Below w2.heap.size w3 _ from (by repeat (first | exact Below.refl _ _ | assumption | refine below_drewN ?_ _ | refine Below.drew ?_ | refine Below.setCell ?_ (by first | omega | (simp; done) | (simp; omega)) _ | refine Below.alloc ?_ (by first | omega | (simp; done) | (simp; omega)) _))).trans (hb.mono (by first | omega | (simp; done) | (simp; omega))))
          have hz4 := hb.size
          try simp at hz4
          have hx4 : w.heap.size < w4.heap.size := by omega
          have hr0 : w4.cell? ⟨w3.heap.size, 0, none⟩ = some (.slice K 2 kc) := (hb.cell (p := ⟨w3.heap.size, 0, none⟩) (by simp; omega)).trans (by simp [go_sem])
          have hr1 : w4.cell? ⟨w3.heap.size, 1, none⟩ = some (.int .i64 2) := (hb.cell (p := ⟨w3.heap.size, 1, none⟩) (by simp; omega)).trans (by simp [go_sem])
          have hk4 : Sl w4 w3.heap.size 2 K 2 kc (keyCells offK) := HK3.out.below ((show Below w3.heap.size w3 _ from (by repeat (first | exact Below.refl _ _ | assumption | refine below_drewN ?_ _ | refine Below.drew ?_ | refine Below.setCell ?_ (by first | omega | (simp; done) | (simp; omega)) _ | refine Below.alloc ?_ (by first | omega | (simp; done) | (simp; omega)) _))).trans (hb.mono (by first | omega | (simp; done) | (simp; omega))))
          clear hbd hb
          obtain ⟨-, y6, -, y8⟩ := fd_box HX4.out
          obtain ⟨qb, qo, hQ, hqb, c0, c1, c2, c3, c4⟩ := ((Sl.of_own HO1.out).below ((show Below w1.heap.size w1 w2 from HW12.out).trans (HC4.out.mono HZ2.out))).cn_at hll0
          subst hQ
          obtain ⟨X, hX⟩ : ∃ X, l[0] = X := ⟨_, rfl⟩
          rw [hX] at c0 c1 c2 c3 c4
          have hca : 1 ≤ X.n ∧ X.n ≤ limit ∧ X.o = q := by
            have h : X ∈ l := hX ▸ List.getElem_mem hll0
            rw [HCL.out] at h
            obtain ⟨-, h2, h3, h4⟩ := cand_mem h
            rw [statL_len] at h4
            exact ⟨h2, h3, h4⟩
          clear hX
          obtain ⟨⟨p1, p2, p3⟩, xn, xo⟩ := X
          obtain ⟨i1, i2, i3⟩ : 1 ≤ xn ∧ xn ≤ limit ∧ xo = q := hca
          simp only [Nat.zero_mul, Nat.add_zero] at c0 c1 c2 c3 c4
          have hqw : qb < w4.heap.size := by have := HZ2.out; have := HC4.out.size; omega
          have hll3 : (0 : Int) < (l.length : Int) := by omega
          have HSL : Hid (∀ W, Below w2.heap.size w2 W → Sl W W.heap.size 1 CA CL.length cc (ints CL)) := fun W hW => ((Sl.of_own HO2.out).below hW).more hW.size
          have HES : Hid (s1.size ≤ maxLen) := Lib.hid (by decide)
          have hgr : 1 ≤ g ∧ g ≤ 8 := (netG_ok (fitG_ok HVE.out)).2.2
          have HNK : Hid (NightOk xn xo g CL) := by
            have h5 := HLM.out
            refine ⟨i1, by omega, by omega, hgr.1, hgr.2, hce, ?_⟩
            rw [← HCLE.out]
            unfold fitL
            rw [if_pos HVE.out]
            have := pick_rising (fitB (sites L) t) g N6
            rw [HN6.out] at this
            rw [Int.mul_assoc]
            exact this
          have HXL : Hid (xn ≤ limit) := i2
          have HOA : Hid (okA (tA xn xo g CL) = true) := tA_ok HNK.out
          have HD0 : Hid (draftR s1 10 xn xo limit g CL = (tA xn xo g CL, 0)) := tDraft HXL.out HOA.out
          have hz24 := HC4.out.size
          have HXQ := Lib.hid i3
          obtain ⟨lo, hlo⟩ : ∃ lo, w3.heap.size + 1 + 1 = lo := ⟨_, rfl⟩
          have hlo4 : lo ≤ w4.heap.size := by omega
          have HEX : Hid (∀ W, Below lo w4 W → TpEnv W lo w.heap.size qb qo w3.heap.size g limit p1 p2 p3 xn xo CL CA cc K kc ∧ RdyP W ∧ Below w.heap.size w W) := by
            have he : TpEnv w4 lo w.heap.size qb qo w3.heap.size g limit p1 p2 p3 xn xo CL CA cc K kc := ⟨y6, y8, c0, c1, c2, c3, c4, hr0, hr1, ((Sl.of_own HO2.out).below HC4.out).more (by omega), hk4.more (by omega), by omega, by have := HZ2.out; omega, by omega, hlo4⟩
            exact fun W hW => ⟨he.below hW, HR.out.below (HB4.out.trans (hW.mono (by omega))), HB4.out.trans (hW.mono (by omega))⟩
          have hloc : w2.heap.size ≤ lo := by omega
          clear hgr i1 i2 i3 hr0 hr1 hk4
          go_upto_region 9 with fail
          go_cut [11, 4] from 26 (fun s11 s4 wx => NiA w4 (tA xn xo g CL) s11 s4 wx)
          case first =>
            have DC : Below w4.heap.size w4 w4 := Below.refl _ _
            go_region_held3 (fun w' => ∀ b o, b < w4.heap.size → w'.cell? ⟨b, o, none⟩ = w4.cell? ⟨b, o, none⟩) (first | exact fun b o h => (Below.trans DC (show Below w4.heap.size _ _ from (by repeat (first | with_reducible exact Below.refl _ _ | with_reducible assumption | (with_reducible refine Below.setCell ?_ (by first | omega | (simp; done) | (simp; omega)) _) | (with_reducible refine Below.alloc ?_ (by first | omega | (simp; done) | (simp; omega)) _) | with_reducible refine Below.drew ?_ | with_reducible refine below_drewN ?_ _)))).cell (p := ⟨b, o, none⟩) h | exact kN | exact fun b o h => rfl)
              (first
                  | (go_at_call 11; refine (Draft_l s1 10 p1 p2 p3 xn xo limit g CL CA cc (tA xn xo g CL) 0 _ rfl HD0.out HES.out (HSL.out _ (HC4.out.trans ((Below.trans DC (by (repeat (first | exact Below.refl _ _ | assumption | refine below_drewN ?_ _ | refine Below.drew ?_ | refine Below.setCell ?_ (by first | omega | (simp; done) | (simp; omega)) _ | refine Below.alloc ?_ (by first | omega | (simp; done) | (simp; omega)) _)))).mono hz24)))).mono ?_; rintro e wm ⟨DA, dc, rfl, dr, hbn⟩; (first | (with_reducible have bx0 := bx_callD (wn := w4) hbn) | (with_reducible have bx0 := bx_callA (wn := w4) hbn)); have bx := bx0 rfl; clear bx0; obtain ⟨⟨e0, e1, e2, e3, e4, e5, e6, e7, e8⟩, g0, g1, g2, g3, g4, g5, g6, g7, g8⟩ := bx_facts bx; have HBX2 := Lib.hid bx; clear bx; have HDR := Lib.hid dr; have HBN := Lib.hid hbn; have sC := hbn.size; (try simp at sC); have DC := Below.trans DC (Below.trans (show Below w4.heap.size _ _ from (by (repeat (first | exact Below.refl _ _ | assumption | refine below_drewN ?_ _ | refine Below.drew ?_ | refine Below.setCell ?_ (by first | omega | (simp; done) | (simp; omega)) _ | refine Below.alloc ?_ (by first | omega | (simp; done) | (simp; omega)) _)))) (hbn.mono (by first | omega | (simp; done) | (simp; omega)))); have kN := (fun b o (h : b < w4.heap.size) => DC.cell (p := ⟨b, o, none⟩) h); clear hbn; clear dr)
                  | (go_at_call 11; refine (Draft_l s1 10 p1 p2 p3 xn xo limit g CL CA cc (tA xn xo g CL) 0 _ rfl HD0.out HES.out (HSL.out _ (HC4.out.trans ((Below.trans DC (by (repeat (first | exact Below.refl _ _ | assumption | refine below_drewN ?_ _ | refine Below.drew ?_ | refine Below.setCell ?_ (by first | omega | (simp; done) | (simp; omega)) _ | refine Below.alloc ?_ (by first | omega | (simp; done) | (simp; omega)) _)))).mono hz24)))).mono ?_; rintro e wm ⟨DA, dc, rfl, dr, hbn⟩; have HDR := Lib.hid dr; have HBN := Lib.hid hbn; have sC := hbn.size; (try simp at sC); have DC := Below.trans DC (Below.trans (show Below w4.heap.size _ _ from (by (repeat (first | exact Below.refl _ _ | assumption | refine below_drewN ?_ _ | refine Below.drew ?_ | refine Below.setCell ?_ (by first | omega | (simp; done) | (simp; omega)) _ | refine Below.alloc ?_ (by first | omega | (simp; done) | (simp; omega)) _)))) (hbn.mono (by first | omega | (simp; done) | (simp; omega)))); have kN := (fun b o (h : b < w4.heap.size) => DC.cell (p := ⟨b, o, none⟩) h); clear hbn; clear dr))
            · go_wp2_with fail
              go_meet
              exact niA_1 HDR.out (Nat.le_refl _) (Below.trans (Below.refl w4.heap.size w4) (DC.mono (Nat.le_refl _))) HES.out
            · go_wp2_with fail
              go_meet
              exact niA_2 (HBX2.out.store (tA xn xo g CL) DA dc) HDR.out (by simp) (kp_store _ _ (tA xn xo g CL) DA dc) (Below.refl w4.heap.size w4) DC HES.out
          case rest =>
            obtain ⟨w5, pA, A1, c1, hw5, rfl, rfl, hnb, hb⟩ := hcut
            subst hw5
            have HNA := Lib.hid hnb
            have HB5 := Lib.hid hb
            have hz5 := hb.size
            clear hnb hb
            go_upto_region 10 with fail
            go_cut [12, 13] from 26 (fun s12 s13 wx => NiN w5 (rO (tA xn xo g CL)) A1 c1 s12 s13 wx)
            case first =>
              obtain ⟨d0, d1, d2, d3, d4, d5, d6, d7, d8⟩ := HNA.out.cells
              simp only [tA] at d0 d1 d2 d3 d4 d5 d6 d7 d8
              have hpa := HNA.out.p3
              go_wp2_with fail
              refine (topsigned_ (tA xn xo g CL) A1 c1 _ HNA.out.ain (HR.out.below (HB4.out.trans (HB5.out.mono (by have := HB4.out.size; omega)))).rdy HOA.out).mono ?_
              rintro e w6 ⟨S, sc, rfl, hS, hb⟩
              have HS6 := Lib.hid hS
              have HB6 := Lib.hid hb
              clear hS hb
              go_wp2_with fail
              go_meet
              exact niN_1 HS6.out (Nat.le_refl _) HB6.out
            case rest =>
              obtain ⟨w6, pN, S6, sc6, hw6, rfl, rfl, hnn, hb⟩ := hcut
              subst hw6
              have HNN := Lib.hid hnn
              have HB6 := Lib.hid hb
              have hz6 := hb.size
              have HNA6 := Lib.hid (HNA.out.below hb)
              clear hnn hb
              obtain ⟨T0, hT0⟩ : ∃ T : Nat → Prop, (fun i => lo ≤ i ∧ i < w4.heap.size) = T := ⟨_, rfl⟩
              have HT0 : Hid (∀ i, T0 i → lo ≤ i ∧ i < w4.heap.size) := fun i hi => by rw [← hT0] at hi; exact hi
              have HBD6 : Hid (Bd w6 T0 bb offK 2 []) := by
                have h := (HBD.out.cut).below (HB5.out.trans (HB6.out.mono hz5))
                exact h.mono (fun i hi => by rw [← hT0]; exact ⟨by have := hi.1; simp at this; omega, hi.2⟩)
              have HL6 : Hid (Below lo w4 w6) := (HB5.out.trans (HB6.out.mono hz5)).mono hlo4
              clear hT0 HB4 HBD HB5 HNA c0 c2 c3 c4 y6 y8
              go_step
              exact ltop_11 (w := w) (w4 := w4) HEX.out HNK.out hlo4 hz5 hz6 hll0 HT0.out HBD6.out HNA6.out HNN.out HL6.out
    · have hv1 : (v != 0) = true := by simpa using hv0
      go_wp2_with fail
      refine (posted_ _ (HR.out.below HB2.out).rdy).mono ?_
      rintro e wE ⟨rfl, hb⟩
      have HBE : Hid (Below w.heap.size w wE) := (HB2.out).trans (hb.mono (HB2.out).size)
      clear hb
      go_wp2_with fail
      go_ret
      exact ⟨rfl, HBE.out⟩
end Go.Proofs.YtmpbhngjkbidcaaGreatDoor
