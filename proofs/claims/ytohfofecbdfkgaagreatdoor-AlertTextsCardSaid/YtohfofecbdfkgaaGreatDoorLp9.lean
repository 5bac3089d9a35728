/-
  The walk of the law AlertTexts: CheckAlert, Same, Print, Parse and Digest return what the chapter says, and the chapter's examples hold.
-/
import Derived.Test.YtohfofecbdfkgaaGreatDoorTt
import Derived.Test.YtohfofecbdfkgaaGreatDoorU15
namespace Go.Proofs.YtohfofecbdfkgaaGreatDoor
open Go.RowKit Al

/-- The arguments stand apart: what does not fit is seen at once. -/
theorem pSame_l (a b : Alr) (A : Option Addr) (c : Nat) (D : Option Addr) (d : Nat) (w : World) {args : Array Value} (he : args = #[a.val A c, b.val D d]) (ha : AIn w a A c) (hb : AIn w b D d) (v : Bool) (hv : sameB a b = v) :
    Calls Tryz.prog 34 args w fun e w' => e = .returned (.bool v) ∧ Below w.heap.size w w' := by
  subst he
  exact pSame_ a b A c D d w ha hb v hv
set_option maxRecDepth 100000 in
set_option maxHeartbeats 16000000 in
theorem ltexts_ (a b : Alr) (A : Option Addr) (c : Nat) (D : Option Addr) (d : Nat) (s : ByteArray) (w : World) (ha : AIn w a A c) (hb : AIn w b D d) (hs : s.size ≤ maxLen) (hr : RdyP w) :
    Calls Tryz.prog 9 #[a.val A c, b.val D d, .string s] w fun e w' => e = .returned (.bool true) ∧ Below w.heap.size w w' := by
  have HA := Lib.hid ha
  have HB := Lib.hid hb
  have HR := Lib.hid hr
  obtain ⟨t, k1, ht⟩ : ∃ t k, printR a = (t, k) := ⟨_, _, rfl⟩
  obtain ⟨x, k2, hx⟩ : ∃ x k, parseR parseB s.data.toList = (x, k) := ⟨_, _, rfl⟩
  obtain ⟨d1, hd⟩ : ∃ d, digE a = d := ⟨_, rfl⟩
  obtain ⟨k3, hk⟩ : ∃ k, errA (okA a) 101 = k := ⟨_, rfl⟩
  obtain ⟨v, hv⟩ : ∃ v, sameB a b = v := ⟨_, rfl⟩
  have hev : x.ev.size ≤ maxLen := parse_ev hx
  have HT := Lib.hid ht
  have HX := Lib.hid hx
  have HD := Lib.hid hd
  have HK := Lib.hid hk
  have HV := Lib.hid hv
  have HE := Lib.hid hev
  have HS := Lib.hid hs
  have q1 : (k3 != k3) = false := by simp
  have q2 : (v != v) = false := by simp
  have q3 : (k1 != k1) = false := by simp
  have q4 : (k2 != k2) = false := by simp
  have q5 : (t.toList == t.toList) = true := by simp
  have q6 : (d1 == d1) = true := by simp
  have q7 : (k3 == k3) = true := by simp
  clear ha hb hr ht hx hd hk hv hev hs
  go_enter Tryz.func9, Tryz.ntmps9
  go_wp2_with fail
  refine wp_region_bw2 (by kernel_rfl) (by kernel_rfl) (fun hbwc => ?_)
  repeat (go_big_quiet_step ((first | (go_at_call 32; exact bwCall (CheckAlert_is a A c _ k3 HK.out (AIn.below (AIn.below HA.out (by (repeat (first | exact Below.refl _ _ | assumption | refine below_drewN ?_ _ | refine Below.drew ?_ | refine Below.setCell ?_ (by first | omega | (simp; done) | (simp; omega)) _ | refine Below.alloc ?_ (by first | omega | (simp; done) | (simp; omega)) _)))) (BW.below _)))) | (go_at_call 33; exact bwCall (rcheckA_is a A c _ k3 HK.out (AIn.below (AIn.below HA.out (by (repeat (first | exact Below.refl _ _ | assumption | refine below_drewN ?_ _ | refine Below.drew ?_ | refine Below.setCell ?_ (by first | omega | (simp; done) | (simp; omega)) _ | refine Below.alloc ?_ (by first | omega | (simp; done) | (simp; omega)) _)))) (BW.below _)))) | (go_at_call 34; refine bwCall (pSame_l a b A c D d _ ?_ (AIn.below (AIn.below HA.out (by (repeat (first | exact Below.refl _ _ | assumption | refine below_drewN ?_ _ | refine Below.drew ?_ | refine Below.setCell ?_ (by first | omega | (simp; done) | (simp; omega)) _ | refine Below.alloc ?_ (by first | omega | (simp; done) | (simp; omega)) _)))) (BW.below _)) (AIn.below (AIn.below HB.out (by (repeat (first | exact Below.refl _ _ | assumption | refine below_drewN ?_ _ | refine Below.drew ?_ | refine Below.setCell ?_ (by first | omega | (simp; done) | (simp; omega)) _ | refine Below.alloc ?_ (by first | omega | (simp; done) | (simp; omega)) _)))) (BW.below _)) v HV.out); (simp only [Alr.val]; done)) | (go_at_call 34; refine bwCall (pSame_l a a A c A c _ ?_ (AIn.below (AIn.below HA.out (by (repeat (first | exact Below.refl _ _ | assumption | refine below_drewN ?_ _ | refine Below.drew ?_ | refine Below.setCell ?_ (by first | omega | (simp; done) | (simp; omega)) _ | refine Below.alloc ?_ (by first | omega | (simp; done) | (simp; omega)) _)))) (BW.below _)) (AIn.below (AIn.below HA.out (by (repeat (first | exact Below.refl _ _ | assumption | refine below_drewN ?_ _ | refine Below.drew ?_ | refine Below.setCell ?_ (by first | omega | (simp; done) | (simp; omega)) _ | refine Below.alloc ?_ (by first | omega | (simp; done) | (simp; omega)) _)))) (BW.below _)) true (sameB_refl a)); (simp only [Alr.val]; done)) | (go_at_call 35; exact bwCall (same_is a b A c D d _ (AIn.below (AIn.below HA.out (by (repeat (first | exact Below.refl _ _ | assumption | refine below_drewN ?_ _ | refine Below.drew ?_ | refine Below.setCell ?_ (by first | omega | (simp; done) | (simp; omega)) _ | refine Below.alloc ?_ (by first | omega | (simp; done) | (simp; omega)) _)))) (BW.below _)) (AIn.below (AIn.below HB.out (by (repeat (first | exact Below.refl _ _ | assumption | refine below_drewN ?_ _ | refine Below.drew ?_ | refine Below.setCell ?_ (by first | omega | (simp; done) | (simp; omega)) _ | refine Below.alloc ?_ (by first | omega | (simp; done) | (simp; omega)) _)))) (BW.below _)) v HV.out)))))
  refine wpQuiet_nil ?_
  clear hbwc
  intro w1 hb
  have Hw1 : Hid (Below (w.heap.size) (w) w1) := (show Below (w.heap.size) (w) _ from (by repeat (first | exact Below.refl _ _ | assumption | refine below_drewN ?_ _ | refine Below.drew ?_ | refine Below.setCell ?_ (by first | omega | (simp; done) | (simp; omega)) _ | refine Below.alloc ?_ (by first | omega | (simp; done) | (simp; omega)) _))).trans (hb.mono (by first | omega | (simp; done) | (simp; omega)))
  have Pw1 : Hid (Below (w.heap.size + 1 + 1) ((w.alloc (.cells #[.string a.ev, .int .i64 a.ver, .int .i64 a.tm, .int .i64 a.n, .int .i64 a.of, .int .i64 a.grid, .slice A a.cells.length c, .bool a.wd, .int .i64 a.before] 48)).alloc (.cells #[.string b.ev, .int .i64 b.ver, .int .i64 b.tm, .int .i64 b.n, .int .i64 b.of, .int .i64 b.grid, .slice D b.cells.length d, .bool b.wd, .int .i64 b.before] 48)) w1) := (show Below (w.heap.size + 1 + 1) ((w.alloc (.cells #[.string a.ev, .int .i64 a.ver, .int .i64 a.tm, .int .i64 a.n, .int .i64 a.of, .int .i64 a.grid, .slice A a.cells.length c, .bool a.wd, .int .i64 a.before] 48)).alloc (.cells #[.string b.ev, .int .i64 b.ver, .int .i64 b.tm, .int .i64 b.n, .int .i64 b.of, .int .i64 b.grid, .slice D b.cells.length d, .bool b.wd, .int .i64 b.before] 48)) _ from (by repeat (first | exact Below.refl _ _ | assumption | refine below_drewN ?_ _ | refine Below.drew ?_ | refine Below.setCell ?_ (by first | omega | (simp; done) | (simp; omega)) _ | refine Below.alloc ?_ (by first | omega | (simp; done) | (simp; omega)) _))).trans (hb.mono (by first | omega | (simp; done) | (simp; omega)))
  obtain ⟨hcPw1, hfPw1⟩ := bcell Pw1.out
  have hzw1 := hb.size
  try simp at hzw1
  clear hb
  have l0 : w.heap.size < w1.heap.size := by omega
  have l1 : w.heap.size + 1 < w1.heap.size := by omega
  go_wp2_with fail
  refine (Print_v a A c _ t k1 HT.out (HA.out.below (by repeat (first | exact Below.refl _ _ | exact (Hw1).out | refine below_drewN ?_ _ | refine Below.drew ?_ | refine Below.setCell ?_ (by first | omega | (simp; done) | (simp; omega)) _ | refine Below.alloc ?_ (by first | omega | (simp; done) | (simp; omega)) _))) (HR.out.below (by repeat (first | exact Below.refl _ _ | exact (Hw1).out | refine below_drewN ?_ _ | refine Below.drew ?_ | refine Below.setCell ?_ (by first | omega | (simp; done) | (simp; omega)) _ | refine Below.alloc ?_ (by first | omega | (simp; done) | (simp; omega)) _))).rdy).mono ?_
  rintro e w2 ⟨rfl, hb⟩
  have Hw2 : Hid (Below (w.heap.size) (w) w2) := (show Below (w.heap.size) (w) _ from (by repeat (first | exact Below.refl _ _ | exact (Hw1).out | refine below_drewN ?_ _ | refine Below.drew ?_ | refine Below.setCell ?_ (by first | omega | (simp; done) | (simp; omega)) _ | refine Below.alloc ?_ (by first | omega | (simp; done) | (simp; omega)) _))).trans (hb.mono (by first | omega | (simp; done) | (simp; omega)))
  have Pw2 : Hid (Below (w.heap.size + 1 + 1) ((w.alloc (.cells #[.string a.ev, .int .i64 a.ver, .int .i64 a.tm, .int .i64 a.n, .int .i64 a.of, .int .i64 a.grid, .slice A a.cells.length c, .bool a.wd, .int .i64 a.before] 48)).alloc (.cells #[.string b.ev, .int .i64 b.ver, .int .i64 b.tm, .int .i64 b.n, .int .i64 b.of, .int .i64 b.grid, .slice D b.cells.length d, .bool b.wd, .int .i64 b.before] 48)) w2) := (show Below (w.heap.size + 1 + 1) ((w.alloc (.cells #[.string a.ev, .int .i64 a.ver, .int .i64 a.tm, .int .i64 a.n, .int .i64 a.of, .int .i64 a.grid, .slice A a.cells.length c, .bool a.wd, .int .i64 a.before] 48)).alloc (.cells #[.string b.ev, .int .i64 b.ver, .int .i64 b.tm, .int .i64 b.n, .int .i64 b.of, .int .i64 b.grid, .slice D b.cells.length d, .bool b.wd, .int .i64 b.before] 48)) _ from (by repeat (first | exact Below.refl _ _ | exact (Pw1).out | refine below_drewN ?_ _ | refine Below.drew ?_ | refine Below.setCell ?_ (by first | omega | (simp; done) | (simp; omega)) _ | refine Below.alloc ?_ (by first | omega | (simp; done) | (simp; omega)) _))).trans (hb.mono (by first | omega | (simp; done) | (simp; omega)))
  obtain ⟨hcPw2, hfPw2⟩ := bcell Pw2.out
  clear hcPw1 hfPw1
  have hzw2 := hb.size
  try simp at hzw2
  clear hb
  clear l0 l1
  have l0 : w.heap.size < w2.heap.size := by omega
  have l1 : w.heap.size + 1 < w2.heap.size := by omega
  go_wp2_with fail
  refine (rPrint_v a A c _ t k1 HT.out (HA.out.below (by repeat (first | exact Below.refl _ _ | exact (Hw2).out | refine below_drewN ?_ _ | refine Below.drew ?_ | refine Below.setCell ?_ (by first | omega | (simp; done) | (simp; omega)) _ | refine Below.alloc ?_ (by first | omega | (simp; done) | (simp; omega)) _)))).mono ?_
  rintro e w3 ⟨rfl, hb⟩
  have Hw3 : Hid (Below (w.heap.size) (w) w3) := (show Below (w.heap.size) (w) _ from (by repeat (first | exact Below.refl _ _ | exact (Hw2).out | refine below_drewN ?_ _ | refine Below.drew ?_ | refine Below.setCell ?_ (by first | omega | (simp; done) | (simp; omega)) _ | refine Below.alloc ?_ (by first | omega | (simp; done) | (simp; omega)) _))).trans (hb.mono (by first | omega | (simp; done) | (simp; omega)))
  have Pw3 : Hid (Below (w.heap.size + 1 + 1) ((w.alloc (.cells #[.string a.ev, .int .i64 a.ver, .int .i64 a.tm, .int .i64 a.n, .int .i64 a.of, .int .i64 a.grid, .slice A a.cells.length c, .bool a.wd, .int .i64 a.before] 48)).alloc (.cells #[.string b.ev, .int .i64 b.ver, .int .i64 b.tm, .int .i64 b.n, .int .i64 b.of, .int .i64 b.grid, .slice D b.cells.length d, .bool b.wd, .int .i64 b.before] 48)) w3) := (show Below (w.heap.size + 1 + 1) ((w.alloc (.cells #[.string a.ev, .int .i64 a.ver, .int .i64 a.tm, .int .i64 a.n, .int .i64 a.of, .int .i64 a.grid, .slice A a.cells.length c, .bool a.wd, .int .i64 a.before] 48)).alloc (.cells #[.string b.ev, .int .i64 b.ver, .int .i64 b.tm, .int .i64 b.n, .int .i64 b.of, .int .i64 b.grid, .slice D b.cells.length d, .bool b.wd, .int .i64 b.before] 48)) _ from (by repeat (first | exact Below.refl _ _ | exact (Pw2).out | refine below_drewN ?_ _ | refine Below.drew ?_ | refine Below.setCell ?_ (by first | omega | (simp; done) | (simp; omega)) _ | refine Below.alloc ?_ (by first | omega | (simp; done) | (simp; omega)) _))).trans (hb.mono (by first | omega | (simp; done) | (simp; omega)))
  obtain ⟨hcPw3, hfPw3⟩ := bcell Pw3.out
  clear hcPw2 hfPw2
  have hzw3 := hb.size
  try simp at hzw3
  clear hb
  clear l0 l1
  have l0 : w.heap.size < w3.heap.size := by omega
  have l1 : w.heap.size + 1 < w3.heap.size := by omega
  go_wp2_with fail
  refine (Parse_v s _ x k2 HX.out HS.out (HR.out.below (by repeat (first | exact Below.refl _ _ | exact (Hw3).out | refine below_drewN ?_ _ | refine Below.drew ?_ | refine Below.setCell ?_ (by first | omega | (simp; done) | (simp; omega)) _ | refine Below.alloc ?_ (by first | omega | (simp; done) | (simp; omega)) _)))).mono ?_
  rintro e w4 ⟨A4, c4, rfl, ho4, hb⟩
  have Hw4 : Hid (Below (w.heap.size) (w) w4) := (show Below (w.heap.size) (w) _ from (by repeat (first | exact Below.refl _ _ | exact (Hw3).out | refine below_drewN ?_ _ | refine Below.drew ?_ | refine Below.setCell ?_ (by first | omega | (simp; done) | (simp; omega)) _ | refine Below.alloc ?_ (by first | omega | (simp; done) | (simp; omega)) _))).trans (hb.mono (by first | omega | (simp; done) | (simp; omega)))
  have Pw4 : Hid (Below (w.heap.size + 1 + 1) ((w.alloc (.cells #[.string a.ev, .int .i64 a.ver, .int .i64 a.tm, .int .i64 a.n, .int .i64 a.of, .int .i64 a.grid, .slice A a.cells.length c, .bool a.wd, .int .i64 a.before] 48)).alloc (.cells #[.string b.ev, .int .i64 b.ver, .int .i64 b.tm, .int .i64 b.n, .int .i64 b.of, .int .i64 b.grid, .slice D b.cells.length d, .bool b.wd, .int .i64 b.before] 48)) w4) := (show Below (w.heap.size + 1 + 1) ((w.alloc (.cells #[.string a.ev, .int .i64 a.ver, .int .i64 a.tm, .int .i64 a.n, .int .i64 a.of, .int .i64 a.grid, .slice A a.cells.length c, .bool a.wd, .int .i64 a.before] 48)).alloc (.cells #[.string b.ev, .int .i64 b.ver, .int .i64 b.tm, .int .i64 b.n, .int .i64 b.of, .int .i64 b.grid, .slice D b.cells.length d, .bool b.wd, .int .i64 b.before] 48)) _ from (by repeat (first | exact Below.refl _ _ | exact (Pw3).out | refine below_drewN ?_ _ | refine Below.drew ?_ | refine Below.setCell ?_ (by first | omega | (simp; done) | (simp; omega)) _ | refine Below.alloc ?_ (by first | omega | (simp; done) | (simp; omega)) _))).trans (hb.mono (by first | omega | (simp; done) | (simp; omega)))
  obtain ⟨hcPw4, hfPw4⟩ := bcell Pw4.out
  clear hcPw3 hfPw3
  have hzw4 := hb.size
  try simp at hzw4
  clear hb
  clear l0 l1
  have l0 : w.heap.size < w4.heap.size := by omega
  have l1 : w.heap.size + 1 < w4.heap.size := by omega
  have HX4 : Hid (AIn w4 x A4 c4) := own_in HE.out ho4
  clear ho4
  go_wp2_with fail
  refine (rParse_v s _ x k2 HX.out HS.out).mono ?_
  rintro e w5 ⟨A5, c5, rfl, ho5, hb⟩
  have Hw5 : Hid (Below (w.heap.size) (w) w5) := (show Below (w.heap.size) (w) _ from (by repeat (first | exact Below.refl _ _ | exact (Hw4).out | refine below_drewN ?_ _ | refine Below.drew ?_ | refine Below.setCell ?_ (by first | omega | (simp; done) | (simp; omega)) _ | refine Below.alloc ?_ (by first | omega | (simp; done) | (simp; omega)) _))).trans (hb.mono (by first | omega | (simp; done) | (simp; omega)))
  have Pw5 : Hid (Below (w.heap.size + 1 + 1) ((w.alloc (.cells #[.string a.ev, .int .i64 a.ver, .int .i64 a.tm, .int .i64 a.n, .int .i64 a.of, .int .i64 a.grid, .slice A a.cells.length c, .bool a.wd, .int .i64 a.before] 48)).alloc (.cells #[.string b.ev, .int .i64 b.ver, .int .i64 b.tm, .int .i64 b.n, .int .i64 b.of, .int .i64 b.grid, .slice D b.cells.length d, .bool b.wd, .int .i64 b.before] 48)) w5) := (show Below (w.heap.size + 1 + 1) ((w.alloc (.cells #[.string a.ev, .int .i64 a.ver, .int .i64 a.tm, .int .i64 a.n, .int .i64 a.of, .int .i64 a.grid, .slice A a.cells.length c, .bool a.wd, .int .i64 a.before] 48)).alloc (.cells #[.string b.ev, .int .i64 b.ver, .int .i64 b.tm, .int .i64 b.n, .int .i64 b.of, .int .i64 b.grid, .slice D b.cells.length d, .bool b.wd, .int .i64 b.before] 48)) _ from (by repeat (first | exact Below.refl _ _ | exact (Pw4).out | refine below_drewN ?_ _ | refine Below.drew ?_ | refine Below.setCell ?_ (by first | omega | (simp; done) | (simp; omega)) _ | refine Below.alloc ?_ (by first | omega | (simp; done) | (simp; omega)) _))).trans (hb.mono (by first | omega | (simp; done) | (simp; omega)))
  obtain ⟨hcPw5, hfPw5⟩ := bcell Pw5.out
  clear hcPw4 hfPw4
  have Qw5 : Hid (Below (w4.heap.size) (w4) w5) := (show Below (w4.heap.size) (w4) _ from (by repeat (first | exact Below.refl _ _ | assumption | refine below_drewN ?_ _ | refine Below.drew ?_ | refine Below.setCell ?_ (by first | omega | (simp; done) | (simp; omega)) _ | refine Below.alloc ?_ (by first | omega | (simp; done) | (simp; omega)) _))).trans (hb.mono (by first | omega | (simp; done) | (simp; omega)))
  have Xw5 : Hid (Below (w4.heap.size + 1) (w4.alloc (.cells #[.string x.ev, .int .i64 x.ver, .int .i64 x.tm, .int .i64 x.n, .int .i64 x.of, .int .i64 x.grid, .slice A4 x.cells.length c4, .bool x.wd, .int .i64 x.before] 48)) w5) := (show Below (w4.heap.size + 1) (w4.alloc (.cells #[.string x.ev, .int .i64 x.ver, .int .i64 x.tm, .int .i64 x.n, .int .i64 x.of, .int .i64 x.grid, .slice A4 x.cells.length c4, .bool x.wd, .int .i64 x.before] 48)) _ from (by repeat (first | exact Below.refl _ _ | assumption | refine below_drewN ?_ _ | refine Below.drew ?_ | refine Below.setCell ?_ (by first | omega | (simp; done) | (simp; omega)) _ | refine Below.alloc ?_ (by first | omega | (simp; done) | (simp; omega)) _))).trans (hb.mono (by first | omega | (simp; done) | (simp; omega)))
  obtain ⟨hcXw5, hfXw5⟩ := bcell Xw5.out
  have hzw5 := hb.size
  try simp at hzw5
  clear hb
  clear l0 l1
  have l0 : w.heap.size < w5.heap.size := by omega
  have l1 : w.heap.size + 1 < w5.heap.size := by omega
  have l2 : w4.heap.size < w5.heap.size := by omega
  have HX5 : Hid (AIn w5 x A5 c5) := own_in HE.out ho5
  clear ho5
  go_wp2_with fail
  refine (same_is x x A4 c4 A5 c5 _ (HX4.out.below (by repeat (first | exact Below.refl _ _ | exact (Qw5).out | refine below_drewN ?_ _ | refine Below.drew ?_ | refine Below.setCell ?_ (by first | omega | (simp; done) | (simp; omega)) _ | refine Below.alloc ?_ (by first | omega | (simp; done) | (simp; omega)) _))) (HX5.out.below (by repeat (first | exact Below.refl _ _ | assumption | refine below_drewN ?_ _ | refine Below.drew ?_ | refine Below.setCell ?_ (by first | omega | (simp; done) | (simp; omega)) _ | refine Below.alloc ?_ (by first | omega | (simp; done) | (simp; omega)) _))) true (sameB_refl x)).mono ?_
  rintro e w6 ⟨rfl, hb⟩
  have Hw6 : Hid (Below (w.heap.size) (w) w6) := (show Below (w.heap.size) (w) _ from (by repeat (first | exact Below.refl _ _ | exact (Hw5).out | refine below_drewN ?_ _ | refine Below.drew ?_ | refine Below.setCell ?_ (by first | omega | (simp; done) | (simp; omega)) _ | refine Below.alloc ?_ (by first | omega | (simp; done) | (simp; omega)) _))).trans (hb.mono (by first | omega | (simp; done) | (simp; omega)))
  have Pw6 : Hid (Below (w.heap.size + 1 + 1) ((w.alloc (.cells #[.string a.ev, .int .i64 a.ver, .int .i64 a.tm, .int .i64 a.n, .int .i64 a.of, .int .i64 a.grid, .slice A a.cells.length c, .bool a.wd, .int .i64 a.before] 48)).alloc (.cells #[.string b.ev, .int .i64 b.ver, .int .i64 b.tm, .int .i64 b.n, .int .i64 b.of, .int .i64 b.grid, .slice D b.cells.length d, .bool b.wd, .int .i64 b.before] 48)) w6) := (show Below (w.heap.size + 1 + 1) ((w.alloc (.cells #[.string a.ev, .int .i64 a.ver, .int .i64 a.tm, .int .i64 a.n, .int .i64 a.of, .int .i64 a.grid, .slice A a.cells.length c, .bool a.wd, .int .i64 a.before] 48)).alloc (.cells #[.string b.ev, .int .i64 b.ver, .int .i64 b.tm, .int .i64 b.n, .int .i64 b.of, .int .i64 b.grid, .slice D b.cells.length d, .bool b.wd, .int .i64 b.before] 48)) _ from (by repeat (first | exact Below.refl _ _ | exact (Pw5).out | refine below_drewN ?_ _ | refine Below.drew ?_ | refine Below.setCell ?_ (by first | omega | (simp; done) | (simp; omega)) _ | refine Below.alloc ?_ (by first | omega | (simp; done) | (simp; omega)) _))).trans (hb.mono (by first | omega | (simp; done) | (simp; omega)))
  obtain ⟨hcPw6, hfPw6⟩ := bcell Pw6.out
  clear hcPw5 hfPw5
  have Qw6 : Hid (Below (w4.heap.size) (w4) w6) := (show Below (w4.heap.size) (w4) _ from (by repeat (first | exact Below.refl _ _ | exact (Qw5).out | refine below_drewN ?_ _ | refine Below.drew ?_ | refine Below.setCell ?_ (by first | omega | (simp; done) | (simp; omega)) _ | refine Below.alloc ?_ (by first | omega | (simp; done) | (simp; omega)) _))).trans (hb.mono (by first | omega | (simp; done) | (simp; omega)))
  have Xw6 : Hid (Below (w4.heap.size + 1) (w4.alloc (.cells #[.string x.ev, .int .i64 x.ver, .int .i64 x.tm, .int .i64 x.n, .int .i64 x.of, .int .i64 x.grid, .slice A4 x.cells.length c4, .bool x.wd, .int .i64 x.before] 48)) w6) := (show Below (w4.heap.size + 1) (w4.alloc (.cells #[.string x.ev, .int .i64 x.ver, .int .i64 x.tm, .int .i64 x.n, .int .i64 x.of, .int .i64 x.grid, .slice A4 x.cells.length c4, .bool x.wd, .int .i64 x.before] 48)) _ from (by repeat (first | exact Below.refl _ _ | exact (Xw5).out | refine below_drewN ?_ _ | refine Below.drew ?_ | refine Below.setCell ?_ (by first | omega | (simp; done) | (simp; omega)) _ | refine Below.alloc ?_ (by first | omega | (simp; done) | (simp; omega)) _))).trans (hb.mono (by first | omega | (simp; done) | (simp; omega)))
  obtain ⟨hcXw6, hfXw6⟩ := bcell Xw6.out
  clear hcXw5 hfXw5
  have Rw6 : Hid (Below (w5.heap.size) (w5) w6) := (show Below (w5.heap.size) (w5) _ from (by repeat (first | exact Below.refl _ _ | assumption | refine below_drewN ?_ _ | refine Below.drew ?_ | refine Below.setCell ?_ (by first | omega | (simp; done) | (simp; omega)) _ | refine Below.alloc ?_ (by first | omega | (simp; done) | (simp; omega)) _))).trans (hb.mono (by first | omega | (simp; done) | (simp; omega)))
  have Yw6 : Hid (Below (w5.heap.size + 1) (w5.alloc (.cells #[.string x.ev, .int .i64 x.ver, .int .i64 x.tm, .int .i64 x.n, .int .i64 x.of, .int .i64 x.grid, .slice A5 x.cells.length c5, .bool x.wd, .int .i64 x.before] 48)) w6) := (show Below (w5.heap.size + 1) (w5.alloc (.cells #[.string x.ev, .int .i64 x.ver, .int .i64 x.tm, .int .i64 x.n, .int .i64 x.of, .int .i64 x.grid, .slice A5 x.cells.length c5, .bool x.wd, .int .i64 x.before] 48)) _ from (by repeat (first | exact Below.refl _ _ | assumption | refine below_drewN ?_ _ | refine Below.drew ?_ | refine Below.setCell ?_ (by first | omega | (simp; done) | (simp; omega)) _ | refine Below.alloc ?_ (by first | omega | (simp; done) | (simp; omega)) _))).trans (hb.mono (by first | omega | (simp; done) | (simp; omega)))
  obtain ⟨hcYw6, hfYw6⟩ := bcell Yw6.out
  have hzw6 := hb.size
  try simp at hzw6
  clear hb
  clear l0 l1 l2
  have l0 : w.heap.size < w6.heap.size := by omega
  have l1 : w.heap.size + 1 < w6.heap.size := by omega
  have l2 : w4.heap.size < w6.heap.size := by omega
  have l3 : w5.heap.size < w6.heap.size := by omega
  clear hcXw6 hfXw6
  clear hcYw6 hfYw6
  go_wp2_with fail
  refine (Digest_v a A c _ d1 k3 HD.out HK.out (HA.out.below Hw6.out) (HR.out.below Hw6.out).rdy).mono ?_
  rintro e w7 ⟨rfl, hb⟩
  have Hw7 : Hid (Below (w.heap.size) (w) w7) := (show Below (w.heap.size) (w) _ from (by repeat (first | exact Below.refl _ _ | exact (Hw6).out | refine below_drewN ?_ _ | refine Below.drew ?_ | refine Below.setCell ?_ (by first | omega | (simp; done) | (simp; omega)) _ | refine Below.alloc ?_ (by first | omega | (simp; done) | (simp; omega)) _))).trans (hb.mono (by first | omega | (simp; done) | (simp; omega)))
  have Pw7 : Hid (Below (w.heap.size + 1 + 1) ((w.alloc (.cells #[.string a.ev, .int .i64 a.ver, .int .i64 a.tm, .int .i64 a.n, .int .i64 a.of, .int .i64 a.grid, .slice A a.cells.length c, .bool a.wd, .int .i64 a.before] 48)).alloc (.cells #[.string b.ev, .int .i64 b.ver, .int .i64 b.tm, .int .i64 b.n, .int .i64 b.of, .int .i64 b.grid, .slice D b.cells.length d, .bool b.wd, .int .i64 b.before] 48)) w7) := (show Below (w.heap.size + 1 + 1) ((w.alloc (.cells #[.string a.ev, .int .i64 a.ver, .int .i64 a.tm, .int .i64 a.n, .int .i64 a.of, .int .i64 a.grid, .slice A a.cells.length c, .bool a.wd, .int .i64 a.before] 48)).alloc (.cells #[.string b.ev, .int .i64 b.ver, .int .i64 b.tm, .int .i64 b.n, .int .i64 b.of, .int .i64 b.grid, .slice D b.cells.length d, .bool b.wd, .int .i64 b.before] 48)) _ from (by repeat (first | exact Below.refl _ _ | exact (Pw6).out | refine below_drewN ?_ _ | refine Below.drew ?_ | refine Below.setCell ?_ (by first | omega | (simp; done) | (simp; omega)) _ | refine Below.alloc ?_ (by first | omega | (simp; done) | (simp; omega)) _))).trans (hb.mono (by first | omega | (simp; done) | (simp; omega)))
  obtain ⟨hcPw7, hfPw7⟩ := bcell Pw7.out
  clear hcPw6 hfPw6
  have hzw7 := hb.size
  try simp at hzw7
  clear hb
  clear l0 l1 l2 l3
  have l0 : w.heap.size < w7.heap.size := by omega
  have l1 : w.heap.size + 1 < w7.heap.size := by omega
  have l2 : w4.heap.size < w7.heap.size := by omega
  have l3 : w5.heap.size < w7.heap.size := by omega
  go_wp2_with fail
  refine (rDigest_v a A c _ d1 k3 HD.out HK.out (HA.out.below Hw7.out)).mono ?_
  rintro e w8 ⟨rfl, hb⟩
  have Hw8 : Hid (Below (w.heap.size) (w) w8) := (show Below (w.heap.size) (w) _ from (by repeat (first | exact Below.refl _ _ | exact (Hw7).out | refine below_drewN ?_ _ | refine Below.drew ?_ | refine Below.setCell ?_ (by first | omega | (simp; done) | (simp; omega)) _ | refine Below.alloc ?_ (by first | omega | (simp; done) | (simp; omega)) _))).trans (hb.mono (by first | omega | (simp; done) | (simp; omega)))
  have Pw8 : Hid (Below (w.heap.size + 1 + 1) ((w.alloc (.cells #[.string a.ev, .int .i64 a.ver, .int .i64 a.tm, .int .i64 a.n, .int .i64 a.of, .int .i64 a.grid, .slice A a.cells.length c, .bool a.wd, .int .i64 a.before] 48)).alloc (.cells #[.string b.ev, .int .i64 b.ver, .int .i64 b.tm, .int .i64 b.n, .int .i64 b.of, .int .i64 b.grid, .slice D b.cells.length d, .bool b.wd, .int .i64 b.before] 48)) w8) := (show Below (w.heap.size + 1 + 1) ((w.alloc (.cells #[.string a.ev, .int .i64 a.ver, .int .i64 a.tm, .int .i64 a.n, .int .i64 a.of, .int .i64 a.grid, .slice A a.cells.length c, .bool a.wd, .int .i64 a.before] 48)).alloc (.cells #[.string b.ev, .int .i64 b.ver, .int .i64 b.tm, .int .i64 b.n, .int .i64 b.of, .int .i64 b.grid, .slice D b.cells.length d, .bool b.wd, .int .i64 b.before] 48)) _ from (by repeat (first | exact Below.refl _ _ | exact (Pw7).out | refine below_drewN ?_ _ | refine Below.drew ?_ | refine Below.setCell ?_ (by first | omega | (simp; done) | (simp; omega)) _ | refine Below.alloc ?_ (by first | omega | (simp; done) | (simp; omega)) _))).trans (hb.mono (by first | omega | (simp; done) | (simp; omega)))
  obtain ⟨hcPw8, hfPw8⟩ := bcell Pw8.out
  clear hcPw7 hfPw7
  have hzw8 := hb.size
  try simp at hzw8
  clear hb
  clear l0 l1 l2 l3
  have l0 : w.heap.size < w8.heap.size := by omega
  have l1 : w.heap.size + 1 < w8.heap.size := by omega
  have l2 : w4.heap.size < w8.heap.size := by omega
  have l3 : w5.heap.size < w8.heap.size := by omega
  go_wp2_with fail
  refine (works_ _ (HR.out.below Hw8.out).rdy).mono ?_
  rintro e w9 ⟨rfl, hb⟩
  have Hw9 : Hid (Below (w.heap.size) (w) w9) := (show Below (w.heap.size) (w) _ from (by repeat (first | exact Below.refl _ _ | exact (Hw8).out | refine below_drewN ?_ _ | refine Below.drew ?_ | refine Below.setCell ?_ (by first | omega | (simp; done) | (simp; omega)) _ | refine Below.alloc ?_ (by first | omega | (simp; done) | (simp; omega)) _))).trans (hb.mono (by first | omega | (simp; done) | (simp; omega)))
  have Pw9 : Hid (Below (w.heap.size + 1 + 1) ((w.alloc (.cells #[.string a.ev, .int .i64 a.ver, .int .i64 a.tm, .int .i64 a.n, .int .i64 a.of, .int .i64 a.grid, .slice A a.cells.length c, .bool a.wd, .int .i64 a.before] 48)).alloc (.cells #[.string b.ev, .int .i64 b.ver, .int .i64 b.tm, .int .i64 b.n, .int .i64 b.of, .int .i64 b.grid, .slice D b.cells.length d, .bool b.wd, .int .i64 b.before] 48)) w9) := (show Below (w.heap.size + 1 + 1) ((w.alloc (.cells #[.string a.ev, .int .i64 a.ver, .int .i64 a.tm, .int .i64 a.n, .int .i64 a.of, .int .i64 a.grid, .slice A a.cells.length c, .bool a.wd, .int .i64 a.before] 48)).alloc (.cells #[.string b.ev, .int .i64 b.ver, .int .i64 b.tm, .int .i64 b.n, .int .i64 b.of, .int .i64 b.grid, .slice D b.cells.length d, .bool b.wd, .int .i64 b.before] 48)) _ from (by repeat (first | exact Below.refl _ _ | exact (Pw8).out | refine below_drewN ?_ _ | refine Below.drew ?_ | refine Below.setCell ?_ (by first | omega | (simp; done) | (simp; omega)) _ | refine Below.alloc ?_ (by first | omega | (simp; done) | (simp; omega)) _))).trans (hb.mono (by first | omega | (simp; done) | (simp; omega)))
  obtain ⟨hcPw9, hfPw9⟩ := bcell Pw9.out
  clear hcPw8 hfPw8
  have hzw9 := hb.size
  try simp at hzw9
  clear hb
  clear l0 l1 l2 l3
  have l0 : w.heap.size < w9.heap.size := by omega
  have l1 : w.heap.size + 1 < w9.heap.size := by omega
  have l2 : w4.heap.size < w9.heap.size := by omega
  have l3 : w5.heap.size < w9.heap.size := by omega
  go_wp2_with fail
  go_ret
  exact ⟨rfl, Hw9.out⟩
end Go.Proofs.YtohfofecbdfkgaaGreatDoor
