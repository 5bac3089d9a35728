/-
  AlertKeys: for all numbers, keys and alerts MakeKey, Sign and Signed return what the chapter says, and the chapter's examples hold. No condition beyond the row's own (the listed tables of the library, tied by the card).
-/
import Derived.Test.YtohfofecbdfkgaaDoorFm
import Derived.Test.YtohfofecbdfkgaaDoorWk
import Derived.Test.YtohfofecbdfkgaaDoorSd2
namespace Go.Proofs.YtohfofecbdfkgaaDoor
open Go.RowKit Go.ChangeShapes Go.WideShapes Go.ChangeAt Al

@[reducible] def sdL (a : Alr) (A : Option Addr) (c : Nat) (s num : Int) : List Value :=
  [.string a.ev, .int .i64 a.ver, .int .i64 a.tm, .int .i64 a.n, .int .i64 a.of, .int .i64 a.grid, .slice A a.cells.length c, .bool a.wd, .int .i64 a.before, .int .i64 s, .int .i64 num]
/-- What MakeKey gives: modulus, exponent, secret, error. -/
def keyV (p q x : Int) : (Int × Int) × Int × Int := if keyB p q x then ((p * q, x), secretI (lcmI p q) x, 0) else ((0, 0), 0, 100)
theorem mk_is (p q x M E S C : Int) (h : keyV p q x = ((M, E), S, C)) (w : World) : Calls Tryd.prog 23 #[.int .i64 p, .int .i64 q, .int .i64 x] w fun e w' => e = .returned (.tuple #[.agg #[.int .i64 M, .int .i64 E], .int .i64 S, .int .i64 C]) ∧ Below w.heap.size w w' := by
  by_cases hk : keyB p q x = true
  · unfold keyV at h
    rw [if_pos hk] at h
    cases h
    exact makeKey_yes p q x hk w
  · unfold keyV at h
    rw [if_neg hk] at h
    cases h
    exact makeKey_no p q x (by simpa using hk) w
theorem rmk_is (p q x M E S C : Int) (h : keyV p q x = ((M, E), S, C)) (w : World) : Calls Tryd.prog 24 #[.int .i64 p, .int .i64 q, .int .i64 x] w fun e w' => e = .returned (.tuple #[.agg #[.int .i64 M, .int .i64 E], .int .i64 S, .int .i64 C]) ∧ Below w.heap.size w w' := by
  by_cases hk : keyB p q x = true
  · unfold keyV at h
    rw [if_pos hk] at h
    cases h
    exact rmakeKey_yes p q x hk w
  · unfold keyV at h
    rw [if_neg hk] at h
    cases h
    exact rmakeKey_no p q x (by simpa using hk) w
theorem Sign_v (m x s : Int) (a : Alr) (A : Option Addr) (c : Nat) (w : World) (u v : Int) (hv : signE m x s a = (u, v)) (h : AIn w a A c) (hr : Rdy w) :
    Calls Tryd.prog 25 #[.agg #[.int .i64 m, .int .i64 x], .int .i64 s, a.val A c] w fun e w' => e = .returned (.tuple #[.int .i64 u, .int .i64 v]) ∧ Below w.heap.size w w' := by
  have := Sign_ m x s a A c w h hr
  rw [hv] at this
  exact this
theorem rSign_v (m x s : Int) (a : Alr) (A : Option Addr) (c : Nat) (w : World) (u v : Int) (hv : signE m x s a = (u, v)) (h : AIn w a A c) :
    Calls Tryd.prog 26 #[.agg #[.int .i64 m, .int .i64 x], .int .i64 s, a.val A c] w fun e w' => e = .returned (.tuple #[.int .i64 u, .int .i64 v]) ∧ Below w.heap.size w w' := by
  have := rSign_ m x s a A c w h
  rw [hv] at this
  exact this
theorem Signed_v (m x num : Int) (a : Alr) (A : Option Addr) (c : Nat) (w : World) (u : Bool) (v : Int) (hu : signedB m x num a = u) (hv : signedC m x a = v) (h : AIn w a A c) (hr : Rdy w) :
    Calls Tryd.prog 27 #[.agg #[.int .i64 m, .int .i64 x], a.val A c, .int .i64 num] w fun e w' => e = .returned (.tuple #[.bool u, .int .i64 v]) ∧ Below w.heap.size w w' := by
  have := Signed_ m x num a A c w h hr
  unfold SignedRet at this
  rw [hu, hv] at this
  exact this
theorem rSigned_v (m x num : Int) (a : Alr) (A : Option Addr) (c : Nat) (w : World) (u : Bool) (v : Int) (hu : signedB m x num a = u) (hv : signedC m x a = v) (h : AIn w a A c) :
    Calls Tryd.prog 28 #[.agg #[.int .i64 m, .int .i64 x], a.val A c, .int .i64 num] w fun e w' => e = .returned (.tuple #[.bool u, .int .i64 v]) ∧ Below w.heap.size w w' := by
  have := rSigned_ m x num a A c w h
  unfold SignedRet at this
  rw [hu, hv] at this
  exact this

set_option maxRecDepth 100000 in
set_option maxHeartbeats 4000000 in
theorem keys_ (p q x m ex s num : Int) (a : Alr) (A : Option Addr) (c : Nat) (w : World) (ha : AIn w a A c) (hr : Rdy w) :
    Calls Tryd.prog 5 #[.agg #[.int .i64 p, .int .i64 q, .int .i64 x], .agg #[.int .i64 m, .int .i64 ex], .agg (sdL a A c s num).toArray] w fun e w' => e = .returned (.bool true) ∧ Below w.heap.size w w' := by
  have HA := Lib.hid ha
  have HR := Lib.hid hr
  obtain ⟨M, E, S, C, hv⟩ : ∃ M E S C, keyV p q x = ((M, E), S, C) := ⟨_, _, _, _, rfl⟩
  obtain ⟨u1, u2, hu⟩ : ∃ u1 u2, signE m ex s a = (u1, u2) := ⟨_, _, rfl⟩
  obtain ⟨b1, hb1⟩ : ∃ b1, signedB m ex num a = b1 := ⟨_, rfl⟩
  obtain ⟨b2, hb2⟩ : ∃ b2, signedC m ex a = b2 := ⟨_, rfl⟩
  have HV := Lib.hid hv
  have HU := Lib.hid hu
  have HB1 := Lib.hid hb1
  have HB2 := Lib.hid hb2
  clear ha hr hv hu hb1 hb2
  go_enter Tryd.func5, Tryd.ntmps5
  go_wp2_with fail
  refine (mk_is p q x M E S C HV.out _).mono ?_
  rintro e w1 ⟨rfl, hb⟩
  have Hw1 : Hid (Below (w.heap.size) (w) w1) := (show Below (w.heap.size) (w) _ from (by repeat (first | exact Below.refl _ _ | assumption | refine below_drewN ?_ _ | refine Below.drew ?_ | refine Below.setCell ?_ (by first | omega | (simp; done) | (simp; omega)) _ | refine Below.alloc ?_ (by first | omega | (simp; done) | (simp; omega)) _))).trans (hb.mono (by first | omega | (simp; done) | (simp; omega)))
  have Pw1 : Hid (Below (w.heap.size + 3) (((w.alloc (.cells #[.int .i64 p, .int .i64 q, .int .i64 x] 52)).alloc (.cells #[.int .i64 m, .int .i64 ex] 54)).alloc (.cells (sdL a A c s num).toArray 56)) w1) := (show Below (w.heap.size + 3) (((w.alloc (.cells #[.int .i64 p, .int .i64 q, .int .i64 x] 52)).alloc (.cells #[.int .i64 m, .int .i64 ex] 54)).alloc (.cells (sdL a A c s num).toArray 56)) _ from (by repeat (first | exact Below.refl _ _ | assumption | refine below_drewN ?_ _ | refine Below.drew ?_ | refine Below.setCell ?_ (by first | omega | (simp; done) | (simp; omega)) _ | refine Below.alloc ?_ (by first | omega | (simp; done) | (simp; omega)) _))).trans (hb.mono (by first | omega | (simp; done) | (simp; omega)))
  obtain ⟨hcPw1, hfPw1⟩ := bcell Pw1.out
  have hzw1 := hb.size
  try simp at hzw1
  clear hb
  have l0 : w.heap.size < w1.heap.size := by omega
  have l1 : w.heap.size + 1 < w1.heap.size := by omega
  have l2 : w.heap.size + 1 + 1 < w1.heap.size := by omega
  go_wp2_with fail
  refine (rmk_is p q x M E S C HV.out _).mono ?_
  rintro e w2 ⟨rfl, hb⟩
  have Hw2 : Hid (Below (w.heap.size) (w) w2) := (show Below (w.heap.size) (w) _ from (by repeat (first | exact Below.refl _ _ | exact (Hw1).out | refine below_drewN ?_ _ | refine Below.drew ?_ | refine Below.setCell ?_ (by first | omega | (simp; done) | (simp; omega)) _ | refine Below.alloc ?_ (by first | omega | (simp; done) | (simp; omega)) _))).trans (hb.mono (by first | omega | (simp; done) | (simp; omega)))
  have Pw2 : Hid (Below (w.heap.size + 3) (((w.alloc (.cells #[.int .i64 p, .int .i64 q, .int .i64 x] 52)).alloc (.cells #[.int .i64 m, .int .i64 ex] 54)).alloc (.cells (sdL a A c s num).toArray 56)) w2) := (show Below (w.heap.size + 3) (((w.alloc (.cells #[.int .i64 p, .int .i64 q, .int .i64 x] 52)).alloc (.cells #[.int .i64 m, .int .i64 ex] 54)).alloc (.cells (sdL a A c s num).toArray 56)) _ from (by repeat (first | exact Below.refl _ _ | exact (Pw1).out | refine below_drewN ?_ _ | refine Below.drew ?_ | refine Below.setCell ?_ (by first | omega | (simp; done) | (simp; omega)) _ | refine Below.alloc ?_ (by first | omega | (simp; done) | (simp; omega)) _))).trans (hb.mono (by first | omega | (simp; done) | (simp; omega)))
  obtain ⟨hcPw2, hfPw2⟩ := bcell Pw2.out
  clear hcPw1 hfPw1
  have Xw2 : Hid (Below (w1.heap.size + 1) (w1.alloc (.cells #[.int .i64 M, .int .i64 E] 54)) w2) := (show Below (w1.heap.size + 1) (w1.alloc (.cells #[.int .i64 M, .int .i64 E] 54)) _ from (by repeat (first | exact Below.refl _ _ | assumption | refine below_drewN ?_ _ | refine Below.drew ?_ | refine Below.setCell ?_ (by first | omega | (simp; done) | (simp; omega)) _ | refine Below.alloc ?_ (by first | omega | (simp; done) | (simp; omega)) _))).trans (hb.mono (by first | omega | (simp; done) | (simp; omega)))
  obtain ⟨hcXw2, hfXw2⟩ := bcell Xw2.out
  have hzw2 := hb.size
  try simp at hzw2
  clear hb
  clear l0 l1 l2
  have l0 : w.heap.size < w2.heap.size := by omega
  have l1 : w.heap.size + 1 < w2.heap.size := by omega
  have l2 : w.heap.size + 1 + 1 < w2.heap.size := by omega
  have l3 : w1.heap.size < w2.heap.size := by omega
  go_wp2_with fail
  refine (Sign_v m ex s a A c _ u1 u2 HU.out (HA.out.below (by repeat (first | exact Below.refl _ _ | exact (Hw2).out | refine below_drewN ?_ _ | refine Below.drew ?_ | refine Below.setCell ?_ (by first | omega | (simp; done) | (simp; omega)) _ | refine Below.alloc ?_ (by first | omega | (simp; done) | (simp; omega)) _))) (HR.out.below (by repeat (first | exact Below.refl _ _ | exact (Hw2).out | refine below_drewN ?_ _ | refine Below.drew ?_ | refine Below.setCell ?_ (by first | omega | (simp; done) | (simp; omega)) _ | refine Below.alloc ?_ (by first | omega | (simp; done) | (simp; omega)) _)))).mono ?_
  rintro e w3 ⟨rfl, hb⟩
  have Hw3 : Hid (Below (w.heap.size) (w) w3) := (show Below (w.heap.size) (w) _ from (by repeat (first | exact Below.refl _ _ | exact (Hw2).out | refine below_drewN ?_ _ | refine Below.drew ?_ | refine Below.setCell ?_ (by first | omega | (simp; done) | (simp; omega)) _ | refine Below.alloc ?_ (by first | omega | (simp; done) | (simp; omega)) _))).trans (hb.mono (by first | omega | (simp; done) | (simp; omega)))
  have Pw3 : Hid (Below (w.heap.size + 3) (((w.alloc (.cells #[.int .i64 p, .int .i64 q, .int .i64 x] 52)).alloc (.cells #[.int .i64 m, .int .i64 ex] 54)).alloc (.cells (sdL a A c s num).toArray 56)) w3) := (show Below (w.heap.size + 3) (((w.alloc (.cells #[.int .i64 p, .int .i64 q, .int .i64 x] 52)).alloc (.cells #[.int .i64 m, .int .i64 ex] 54)).alloc (.cells (sdL a A c s num).toArray 56)) _ from (by repeat (first | exact Below.refl _ _ | exact (Pw2).out | refine below_drewN ?_ _ | refine Below.drew ?_ | refine Below.setCell ?_ (by first | omega | (simp; done) | (simp; omega)) _ | refine Below.alloc ?_ (by first | omega | (simp; done) | (simp; omega)) _))).trans (hb.mono (by first | omega | (simp; done) | (simp; omega)))
  obtain ⟨hcPw3, hfPw3⟩ := bcell Pw3.out
  clear hcPw2 hfPw2
  have Xw3 : Hid (Below (w1.heap.size + 1) (w1.alloc (.cells #[.int .i64 M, .int .i64 E] 54)) w3) := (show Below (w1.heap.size + 1) (w1.alloc (.cells #[.int .i64 M, .int .i64 E] 54)) _ from (by repeat (first | exact Below.refl _ _ | exact (Xw2).out | refine below_drewN ?_ _ | refine Below.drew ?_ | refine Below.setCell ?_ (by first | omega | (simp; done) | (simp; omega)) _ | refine Below.alloc ?_ (by first | omega | (simp; done) | (simp; omega)) _))).trans (hb.mono (by first | omega | (simp; done) | (simp; omega)))
  obtain ⟨hcXw3, hfXw3⟩ := bcell Xw3.out
  clear hcXw2 hfXw2
  have hzw3 := hb.size
  try simp at hzw3
  clear hb
  clear l0 l1 l2 l3
  have l0 : w.heap.size < w3.heap.size := by omega
  have l1 : w.heap.size + 1 < w3.heap.size := by omega
  have l2 : w.heap.size + 1 + 1 < w3.heap.size := by omega
  have l3 : w1.heap.size < w3.heap.size := by omega
  go_wp2_with fail
  refine (rSign_v m ex s a A c _ u1 u2 HU.out (HA.out.below Hw3.out)).mono ?_
  rintro e w4 ⟨rfl, hb⟩
  have Hw4 : Hid (Below (w.heap.size) (w) w4) := (show Below (w.heap.size) (w) _ from (by repeat (first | exact Below.refl _ _ | exact (Hw3).out | refine below_drewN ?_ _ | refine Below.drew ?_ | refine Below.setCell ?_ (by first | omega | (simp; done) | (simp; omega)) _ | refine Below.alloc ?_ (by first | omega | (simp; done) | (simp; omega)) _))).trans (hb.mono (by first | omega | (simp; done) | (simp; omega)))
  have Pw4 : Hid (Below (w.heap.size + 3) (((w.alloc (.cells #[.int .i64 p, .int .i64 q, .int .i64 x] 52)).alloc (.cells #[.int .i64 m, .int .i64 ex] 54)).alloc (.cells (sdL a A c s num).toArray 56)) w4) := (show Below (w.heap.size + 3) (((w.alloc (.cells #[.int .i64 p, .int .i64 q, .int .i64 x] 52)).alloc (.cells #[.int .i64 m, .int .i64 ex] 54)).alloc (.cells (sdL a A c s num).toArray 56)) _ from (by repeat (first | exact Below.refl _ _ | exact (Pw3).out | refine below_drewN ?_ _ | refine Below.drew ?_ | refine Below.setCell ?_ (by first | omega | (simp; done) | (simp; omega)) _ | refine Below.alloc ?_ (by first | omega | (simp; done) | (simp; omega)) _))).trans (hb.mono (by first | omega | (simp; done) | (simp; omega)))
  obtain ⟨hcPw4, hfPw4⟩ := bcell Pw4.out
  clear hcPw3 hfPw3
  have Xw4 : Hid (Below (w1.heap.size + 1) (w1.alloc (.cells #[.int .i64 M, .int .i64 E] 54)) w4) := (show Below (w1.heap.size + 1) (w1.alloc (.cells #[.int .i64 M, .int .i64 E] 54)) _ from (by repeat (first | exact Below.refl _ _ | exact (Xw3).out | refine below_drewN ?_ _ | refine Below.drew ?_ | refine Below.setCell ?_ (by first | omega | (simp; done) | (simp; omega)) _ | refine Below.alloc ?_ (by first | omega | (simp; done) | (simp; omega)) _))).trans (hb.mono (by first | omega | (simp; done) | (simp; omega)))
  obtain ⟨hcXw4, hfXw4⟩ := bcell Xw4.out
  clear hcXw3 hfXw3
  have hzw4 := hb.size
  try simp at hzw4
  clear hb
  clear l0 l1 l2 l3
  have l0 : w.heap.size < w4.heap.size := by omega
  have l1 : w.heap.size + 1 < w4.heap.size := by omega
  have l2 : w.heap.size + 1 + 1 < w4.heap.size := by omega
  have l3 : w1.heap.size < w4.heap.size := by omega
  go_wp2_with fail
  refine (Signed_v m ex num a A c _ b1 b2 HB1.out HB2.out (HA.out.below Hw4.out) (HR.out.below Hw4.out)).mono ?_
  rintro e w5 ⟨rfl, hb⟩
  have Hw5 : Hid (Below (w.heap.size) (w) w5) := (show Below (w.heap.size) (w) _ from (by repeat (first | exact Below.refl _ _ | exact (Hw4).out | refine below_drewN ?_ _ | refine Below.drew ?_ | refine Below.setCell ?_ (by first | omega | (simp; done) | (simp; omega)) _ | refine Below.alloc ?_ (by first | omega | (simp; done) | (simp; omega)) _))).trans (hb.mono (by first | omega | (simp; done) | (simp; omega)))
  have Pw5 : Hid (Below (w.heap.size + 3) (((w.alloc (.cells #[.int .i64 p, .int .i64 q, .int .i64 x] 52)).alloc (.cells #[.int .i64 m, .int .i64 ex] 54)).alloc (.cells (sdL a A c s num).toArray 56)) w5) := (show Below (w.heap.size + 3) (((w.alloc (.cells #[.int .i64 p, .int .i64 q, .int .i64 x] 52)).alloc (.cells #[.int .i64 m, .int .i64 ex] 54)).alloc (.cells (sdL a A c s num).toArray 56)) _ from (by repeat (first | exact Below.refl _ _ | exact (Pw4).out | refine below_drewN ?_ _ | refine Below.drew ?_ | refine Below.setCell ?_ (by first | omega | (simp; done) | (simp; omega)) _ | refine Below.alloc ?_ (by first | omega | (simp; done) | (simp; omega)) _))).trans (hb.mono (by first | omega | (simp; done) | (simp; omega)))
  obtain ⟨hcPw5, hfPw5⟩ := bcell Pw5.out
  clear hcPw4 hfPw4
  have Xw5 : Hid (Below (w1.heap.size + 1) (w1.alloc (.cells #[.int .i64 M, .int .i64 E] 54)) w5) := (show Below (w1.heap.size + 1) (w1.alloc (.cells #[.int .i64 M, .int .i64 E] 54)) _ from (by repeat (first | exact Below.refl _ _ | exact (Xw4).out | refine below_drewN ?_ _ | refine Below.drew ?_ | refine Below.setCell ?_ (by first | omega | (simp; done) | (simp; omega)) _ | refine Below.alloc ?_ (by first | omega | (simp; done) | (simp; omega)) _))).trans (hb.mono (by first | omega | (simp; done) | (simp; omega)))
  obtain ⟨hcXw5, hfXw5⟩ := bcell Xw5.out
  clear hcXw4 hfXw4
  have hzw5 := hb.size
  try simp at hzw5
  clear hb
  clear l0 l1 l2 l3
  have l0 : w.heap.size < w5.heap.size := by omega
  have l1 : w.heap.size + 1 < w5.heap.size := by omega
  have l2 : w.heap.size + 1 + 1 < w5.heap.size := by omega
  have l3 : w1.heap.size < w5.heap.size := by omega
  go_wp2_with fail
  refine (rSigned_v m ex num a A c _ b1 b2 HB1.out HB2.out (HA.out.below Hw5.out)).mono ?_
  rintro e w6 ⟨rfl, hb⟩
  have Hw6 : Hid (Below (w.heap.size) (w) w6) := (show Below (w.heap.size) (w) _ from (by repeat (first | exact Below.refl _ _ | exact (Hw5).out | refine below_drewN ?_ _ | refine Below.drew ?_ | refine Below.setCell ?_ (by first | omega | (simp; done) | (simp; omega)) _ | refine Below.alloc ?_ (by first | omega | (simp; done) | (simp; omega)) _))).trans (hb.mono (by first | omega | (simp; done) | (simp; omega)))
  have Pw6 : Hid (Below (w.heap.size + 3) (((w.alloc (.cells #[.int .i64 p, .int .i64 q, .int .i64 x] 52)).alloc (.cells #[.int .i64 m, .int .i64 ex] 54)).alloc (.cells (sdL a A c s num).toArray 56)) w6) := (show Below (w.heap.size + 3) (((w.alloc (.cells #[.int .i64 p, .int .i64 q, .int .i64 x] 52)).alloc (.cells #[.int .i64 m, .int .i64 ex] 54)).alloc (.cells (sdL a A c s num).toArray 56)) _ from (by repeat (first | exact Below.refl _ _ | exact (Pw5).out | refine below_drewN ?_ _ | refine Below.drew ?_ | refine Below.setCell ?_ (by first | omega | (simp; done) | (simp; omega)) _ | refine Below.alloc ?_ (by first | omega | (simp; done) | (simp; omega)) _))).trans (hb.mono (by first | omega | (simp; done) | (simp; omega)))
  obtain ⟨hcPw6, hfPw6⟩ := bcell Pw6.out
  clear hcPw5 hfPw5
  have Xw6 : Hid (Below (w1.heap.size + 1) (w1.alloc (.cells #[.int .i64 M, .int .i64 E] 54)) w6) := (show Below (w1.heap.size + 1) (w1.alloc (.cells #[.int .i64 M, .int .i64 E] 54)) _ from (by repeat (first | exact Below.refl _ _ | exact (Xw5).out | refine below_drewN ?_ _ | refine Below.drew ?_ | refine Below.setCell ?_ (by first | omega | (simp; done) | (simp; omega)) _ | refine Below.alloc ?_ (by first | omega | (simp; done) | (simp; omega)) _))).trans (hb.mono (by first | omega | (simp; done) | (simp; omega)))
  obtain ⟨hcXw6, hfXw6⟩ := bcell Xw6.out
  clear hcXw5 hfXw5
  have hzw6 := hb.size
  try simp at hzw6
  clear hb
  clear l0 l1 l2 l3
  have l0 : w.heap.size < w6.heap.size := by omega
  have l1 : w.heap.size + 1 < w6.heap.size := by omega
  have l2 : w.heap.size + 1 + 1 < w6.heap.size := by omega
  have l3 : w1.heap.size < w6.heap.size := by omega
  go_wp2_with fail
  refine (works_ _ (HR.out.below Hw6.out)).mono ?_
  rintro e w7 ⟨rfl, hb⟩
  have Hw7 : Hid (Below (w.heap.size) (w) w7) := (show Below (w.heap.size) (w) _ from (by repeat (first | exact Below.refl _ _ | exact (Hw6).out | refine below_drewN ?_ _ | refine Below.drew ?_ | refine Below.setCell ?_ (by first | omega | (simp; done) | (simp; omega)) _ | refine Below.alloc ?_ (by first | omega | (simp; done) | (simp; omega)) _))).trans (hb.mono (by first | omega | (simp; done) | (simp; omega)))
  have Pw7 : Hid (Below (w.heap.size + 3) (((w.alloc (.cells #[.int .i64 p, .int .i64 q, .int .i64 x] 52)).alloc (.cells #[.int .i64 m, .int .i64 ex] 54)).alloc (.cells (sdL a A c s num).toArray 56)) w7) := (show Below (w.heap.size + 3) (((w.alloc (.cells #[.int .i64 p, .int .i64 q, .int .i64 x] 52)).alloc (.cells #[.int .i64 m, .int .i64 ex] 54)).alloc (.cells (sdL a A c s num).toArray 56)) _ from (by repeat (first | exact Below.refl _ _ | exact (Pw6).out | refine below_drewN ?_ _ | refine Below.drew ?_ | refine Below.setCell ?_ (by first | omega | (simp; done) | (simp; omega)) _ | refine Below.alloc ?_ (by first | omega | (simp; done) | (simp; omega)) _))).trans (hb.mono (by first | omega | (simp; done) | (simp; omega)))
  obtain ⟨hcPw7, hfPw7⟩ := bcell Pw7.out
  clear hcPw6 hfPw6
  have Xw7 : Hid (Below (w1.heap.size + 1) (w1.alloc (.cells #[.int .i64 M, .int .i64 E] 54)) w7) := (show Below (w1.heap.size + 1) (w1.alloc (.cells #[.int .i64 M, .int .i64 E] 54)) _ from (by repeat (first | exact Below.refl _ _ | exact (Xw6).out | refine below_drewN ?_ _ | refine Below.drew ?_ | refine Below.setCell ?_ (by first | omega | (simp; done) | (simp; omega)) _ | refine Below.alloc ?_ (by first | omega | (simp; done) | (simp; omega)) _))).trans (hb.mono (by first | omega | (simp; done) | (simp; omega)))
  obtain ⟨hcXw7, hfXw7⟩ := bcell Xw7.out
  clear hcXw6 hfXw6
  have hzw7 := hb.size
  try simp at hzw7
  clear hb
  clear l0 l1 l2 l3
  have l0 : w.heap.size < w7.heap.size := by omega
  have l1 : w.heap.size + 1 < w7.heap.size := by omega
  have l2 : w.heap.size + 1 + 1 < w7.heap.size := by omega
  have l3 : w1.heap.size < w7.heap.size := by omega
  go_wp2_with fail
  go_ret
  exact ⟨rfl, Hw7.out⟩

theorem cArr : Tryd.prog.cellsOf 52 = 3 := by kernel_rfl
theorem cSaid : Tryd.prog.cellsOf 56 = 11 := by kernel_rfl
theorem list3 {l : List Value} (h : l.length = 3) : ∃ a b c, l = [a, b, c] := by
  match l, h with
  | [a, b, c], _ => exact ⟨a, b, c, rfl⟩
theorem list11 {l : List Value} (h : l.length = 11) : ∃ c0 c1 c2 c3 c4 c5 c6 c7 c8 c9 c10, l = [c0, c1, c2, c3, c4, c5, c6, c7, c8, c9, c10] := by
  match l, h with
  | [c0, c1, c2, c3, c4, c5, c6, c7, c8, c9, c10], _ => exact ⟨_, _, _, _, _, _, _, _, _, _, _, rfl⟩
section
variable {H : Type} {enc : TypeId × Value → H} {w : World} {B : Nat} {cs : List Value}
set_option maxRecDepth 100000 in
theorem arr_open (h : Rdg enc w B 52 cs) : ∃ p q x : Int, cs = [.int .i64 p, .int .i64 q, .int .i64 x] := by
  obtain ⟨hl, hf⟩ := h.array Tryd.underlying52
  rw [cArr] at hl
  obtain ⟨a, b, c, rfl⟩ := list3 hl
  have h0 := hf 0 (by decide)
  have h1 := hf 1 (by decide)
  have h2 := hf 2 (by decide)
  rw [cInt] at h0 h1 h2
  obtain ⟨p, e0, _⟩ := h0.int Tryd.underlying3
  obtain ⟨q, e1, _⟩ := h1.int Tryd.underlying3
  obtain ⟨x, e2, _⟩ := h2.int Tryd.underlying3
  simp at e0 e1 e2
  exact ⟨p, q, x, by rw [e0, e1, e2]⟩
theorem said_open (h : Rdg enc w B 56 cs) : ∃ (a : Alr) (A : Option Addr) (c : Nat) (s num : Int), cs = sdL a A c s num ∧ a.ev.size ≤ maxLen ∧ Sl w B 1 A a.cells.length c (ints a.cells) := by
  obtain ⟨hl, hf⟩ := h.struct Tryd.underlying56
  rw [cSaid] at hl
  obtain ⟨c0, c1, c2, c3, c4, c5, c6, c7, c8, c9, c10, rfl⟩ := list11 hl
  have h0 : Rdg enc w B 29 ((([c0, c1, c2, c3, c4, c5, c6, c7, c8, c9, c10] : List Value).drop 0).take (Tryd.prog.cellsOf 29)) := hf 0 _ rfl
  have h1 : Rdg enc w B 3 ((([c0, c1, c2, c3, c4, c5, c6, c7, c8, c9, c10] : List Value).drop 9).take (Tryd.prog.cellsOf 3)) := hf 1 _ rfl
  have h2 : Rdg enc w B 3 ((([c0, c1, c2, c3, c4, c5, c6, c7, c8, c9, c10] : List Value).drop 10).take (Tryd.prog.cellsOf 3)) := hf 2 _ rfl
  rw [cAlert] at h0
  rw [cInt] at h1 h2
  obtain ⟨a, A, c, e0, hev, hs, _, _⟩ := alr_open h0
  obtain ⟨s, e1, _⟩ := h1.int Tryd.underlying3
  obtain ⟨num, e2, _⟩ := h2.int Tryd.underlying3
  simp at e0 e1 e2
  obtain ⟨e0, e3, e4, e5, e6, e7, e8, e9, e10⟩ := e0
  exact ⟨a, A, c, s, num, by rw [e0, e3, e4, e5, e6, e7, e8, e9, e10, e1, e2], hev, hs⟩
end
theorem okWide_arr {P : Program} {w : World} {r : Reach} {base : Nat} {t e : TypeId} {n : Nat} {v : Value} (ht : P.underlying t = some (.array n e)) (h : Value.okWide P w r base t v) : ∃ cs, v = .agg cs := by
  simp only [Value.okWide, ht] at h
  obtain ⟨cs, h1, _⟩ := h
  exact ⟨cs, h1⟩

set_option maxRecDepth 100000 in
theorem alertKeys_contract (H : Type) (enc : TypeId × Value → H) (W : World) (base : Nat) (args : Array Value) (ds gs : List (DataW H)) (before : List MemPlace)
    (hval : ∀ (j : Nat) t v, Tryd.f5.params[j]? = some t → args[j]? = some v → Value.okWide Tryd.prog W .any base t v)
    (hW : DataW.Whole enc Tryd.prog Tryd.f5.params.toList Rows.alertKeysSpec.vars false W args.toList ds gs before)
    (hwt : (DataW.weightsEach Tryd.prog Tryd.f5.params.toList ds).all (· ≤ reachBytes) = true) (hL : laidMetH Tryd.prog Rows.alertKeysRow.laid W) :
    Calls Tryd.prog 5 args W fun e W' => ∃ v, e = .returned v ∧ Rows.alertKeysSpec.post enc Tryd.prog Tryd.f5 false true false false W args v W' := by
  have hlt : ∀ x ∈ before, x.block < W.heap.size := fun x hx => hW.lt x hx
  have hW' := hW
  obtain ⟨p, q, hA0, hV, rfl, _, _⟩ := hW
  have hA : DataW.TrodAll enc Tryd.prog W 0 (fun _ => true) true Tryd.f5.params.toList args.toList ds p := hA0
  have hrdy : Rdy W := rdyOf hL
  obtain ⟨rfl, rfl⟩ := trodVars_none hV
  rw [Tryd.params5] at hA hval hwt
  have rd : ∀ (j : Nat) (t : TypeId) (v : Value), ([52, 54, 56] : List TypeId)[j]? = some t → args.toList[j]? = some v → Rdg enc W W.heap.size t v.cells.toList := fun j t v h1 h2 =>
    rdgOf hA (fun x hx => hlt x (List.mem_append.2 (.inl hx))) hwt h1 h2
  obtain ⟨v0, vs0, d0, ds0, p0, q0, e0, rfl, rfl, h0, r0⟩ := trodAll_cons hA
  obtain ⟨v1, vs1, d1, ds1, p1, q1, e1, rfl, rfl, h1, r1⟩ := trodAll_cons r0
  obtain ⟨v2, vs2, d2, ds2, p2, q2, e2, rfl, rfl, h2, r2⟩ := trodAll_cons r1
  obtain ⟨rfl, rfl, rfl⟩ := trodAll_nil r2
  obtain rfl : args = #[v0, v1, v2] := by cases args; simp_all
  have walk : Calls Tryd.prog 5 #[v0, v1, v2] W fun e w' => e = .returned (.bool true) ∧ Below W.heap.size W w' := by
    obtain ⟨c0, hc0⟩ := okWide_arr Tryd.underlying52 (hval 0 52 v0 rfl rfl)
    obtain ⟨c1, hc1, _⟩ := okWide_struct Tryd.underlying54 (hval 1 54 v1 rfl rfl)
    obtain ⟨c2, hc2, _⟩ := okWide_struct Tryd.underlying56 (hval 2 56 v2 rfl rfl)
    obtain ⟨p, q, x, hp⟩ := arr_open (rd 0 52 v0 rfl rfl)
    obtain ⟨k, hk, _⟩ := key_open (rd 1 54 v1 rfl rfl)
    obtain ⟨a, A, c, s, num, ha, hev, hs⟩ := said_open (rd 2 56 v2 rfl rfl)
    subst hc0 hc1 hc2
    have e0 : c0 = #[.int .i64 p, .int .i64 q, .int .i64 x] := by rw [← Array.toList_inj]; exact hp
    have e1 : c1 = #[.int .i64 k.1, .int .i64 k.2] := by rw [← Array.toList_inj]; exact hk
    have e2 : c2 = (sdL a A c s num).toArray := by rw [← Array.toList_inj]; exact ha
    subst e0 e1 e2
    exact keys_ p q x k.1 k.2 s num a A c W ⟨hev, hs⟩ hrdy
  refine walk.mono fun e W' ⟨he, hb⟩ => ?_
  subst he
  exact ⟨_, rfl, lawPost hW' rfl (by kernel_rfl) rfl (by rw [Tryd.params5]; intro t ht; simp at ht; rcases ht with rfl | rfl | rfl <;> exact ⟨by kernel_rfl, of_decide_eq_true (by kernel_rfl)⟩) hb⟩

theorem alertKeys_reads (os : Os) {H : Type} (enc : TypeId × Value → H) : ∃ places, DataW.whole enc Tryd.prog ((laidWorld os).forCall (fun _ _ => 0) ⟨#[], #[.agg #[.int .i64 0, .int .i64 0, .int .i64 0], .agg #[.int .i64 0, .int .i64 0], .agg #[.string ⟨#[]⟩, .int .i64 0, .int .i64 0, .int .i64 0, .int .i64 0, .int .i64 0, .slice none 0 0, .bool false, .int .i64 0, .int .i64 0, .int .i64 0]], []⟩).memory Tryd.f5.params.toList Rows.alertKeysSpec.vars false (#[.agg #[.int .i64 0, .int .i64 0, .int .i64 0], .agg #[.int .i64 0, .int .i64 0], .agg #[.string ⟨#[]⟩, .int .i64 0, .int .i64 0, .int .i64 0, .int .i64 0, .int .i64 0, .slice none 0 0, .bool false, .int .i64 0, .int .i64 0, .int .i64 0]] : Array Value).toList 8 = some ([.agg [.lit (.int .i64 0), .lit (.int .i64 0), .lit (.int .i64 0)], .agg [.lit (.int .i64 0), .lit (.int .i64 0)], .agg [.agg [.lit (.string []), .lit (.int .i64 0), .lit (.int .i64 0), .agg [.lit (.int .i64 0), .lit (.int .i64 0)], .lit (.int .i64 0), .nil, .lit (.bool false), .lit (.int .i64 0)], .lit (.int .i64 0), .lit (.int .i64 0)]], [], places) :=
  ⟨[], by kernel_rfl⟩
set_option maxRecDepth 100000 in
theorem alertKeys_lifted (os : Os) (started : os.Started) (H : Type) (enc : TypeId × Value → H) (F : Stop.Interp) :
    ReturnsInHanded {} Tryd.checked os 5 .any ((OpenSpec.ofChange Rows.alertKeysSpec).preRow enc Tryd.prog Tryd.f5 Rows.alertKeysRow.domain false Rows.alertKeysRow.laid) (((OpenSpec.ofChange Rows.alertKeysSpec).at F).post enc Tryd.prog Tryd.f5 false true false false) := by
  obtain ⟨places, hx⟩ := alertKeys_reads os enc
  refine returnsInHanded_of_row (C := Tryd.checked) (s := OpenSpec.ofChange Rows.alertKeysSpec) own started (by kernel_rfl) Tryd.func5
    (witness_row_at (enc := enc) (C := Tryd.checked) false (laidWorld os) #[.agg #[.int .i64 0, .int .i64 0, .int .i64 0], .agg #[.int .i64 0, .int .i64 0], .agg #[.string ⟨#[]⟩, .int .i64 0, .int .i64 0, .int .i64 0, .int .i64 0, .int .i64 0, .slice none 0 0, .bool false, .int .i64 0, .int .i64 0, .int .i64 0]] rfl (by kernel_rfl) (by kernel_rfl) (by kernel_rfl)
      (OpenSpec.preRow_of_cond 8 hx (by kernel_rfl) (fun k hk => by cases hk) (by kernel_rfl) (laid_met os _))) ?_
  intro W base args ds gs before hval hW _ _ hwt hL _ _
  refine alertKeys_contract H enc W base args ds gs before hval hW ?_ hL
  have hgs : gs = [] := by
    obtain ⟨p, q, _, hV, _⟩ := hW
    exact (trodVars_none hV).1
  subst hgs
  have hw2 : (DataW.weightsEach Tryd.prog (Tryd.f5.params.toList ++ []) (ds ++ [])).all (· ≤ reachBytes) = true := hwt
  rw [List.append_nil, List.append_nil] at hw2
  exact hw2
theorem alertKeys_said : Rows.AlertKeysSaid :=
  OpenClaim.holds_of_cond 5 Tryd.f5 rfl rfl rfl rfl rfl rfl rfl ⟨rfl, rfl, rfl, rfl, rfl⟩ rfl rfl rfl rfl rfl (by kernel_rfl) Tryd.func5 (by kernel_rfl)
    (of_decide_eq_true (by kernel_rfl)) (by unfold Func.isWrapper; first | (rw [if_pos (by decide +kernel)]; kernel_rfl) | (rw [if_neg (by decide +kernel)]; exact ⟨rfl, rfl⟩))
    (fun os started H enc _ F => by rw [OpenClaim.pre_eq_preRow]; exact alertKeys_lifted os started H enc F)
theorem alertKeys_plain (f : FuncId) (fn : Func) (hf : Tryd.pinned.checked.prog.funcNamed "ringdown/ringdownlaw10.AlertKeys" = some f) (hfn : Tryd.pinned.checked.prog.funcs[f]? = some fn) :
    false = Tryd.pinned.checked.prog.looks [] ∧ ∀ (j : Nat) t, fn.params[j]? = some t → Tryd.pinned.checked.prog.wantsStandIn t = false := by
  obtain rfl : f = 5 := Option.some.inj ((show Tryd.prog.funcNamed "ringdown/ringdownlaw10.AlertKeys" = some 5 by kernel_rfl).symm.trans hf) |>.symm
  obtain rfl : fn = Tryd.f5 := (Option.some.inj (Tryd.func5.symm.trans hfn)).symm
  refine ⟨by kernel_rfl, fun j t ht => ?_⟩
  rw [Tryd.params5] at ht
  have := Array.mem_of_getElem? ht
  simp at this
  rcases this with rfl | rfl | rfl
  · exact (show Tryd.prog.wantsStandIn 52 = false by kernel_rfl)
  · exact (show Tryd.prog.wantsStandIn 54 = false by kernel_rfl)
  · exact (show Tryd.prog.wantsStandIn 56 = false by kernel_rfl)
/-- The law's card. -/
theorem alertKeys_card : Rows.AlertKeysCardSaid :=
  Claim7.holds_tied_plain_at .later [] _ _ _ _ alertKeys_said (fun _ h => by cases h) (by kernel_rfl) (fun _ h => by cases h) alertKeys_row_tie rfl ⟨rfl, rfl⟩ (by kernel_rfl) rfl alertKeys_plain (by kernel_rfl)
end Go.Proofs.YtohfofecbdfkgaaDoor
