/-
  AlertSigned: what is signed with the secret of a key is a signature, and the signature with another number is none; and the chapter's examples hold. No condition beyond the row's own (the listed tables of the library, tied by the card).
-/
import Derived.Test.YtohfofecbdfkgaaDoorLa3
import Derived.Test.YtohfofecbdfkgaaDoorKw
import Derived.Test.YtohfofecbdfkgaaDoorMo
namespace Go.Proofs.YtohfofecbdfkgaaDoor
open Go.RowKit Go.ChangeShapes Go.WideShapes Go.ChangeAt Al

theorem prime4 : primeB 4 = false := by decide
theorem key_plaus {p q x : Int} (h : keyB p q x = true) : plaus (p * q) x = true ∧ inB (secretI (lcmI p q) x) 1 1073741824 = true ∧ 15 ≤ p * q ∧ p * q ≤ 1073741824 := by
  obtain ⟨h1, h2, hne, hx, hg⟩ := key_yes h
  have bp := primeB_in h1
  have bq := primeB_in h2
  have bx := inB_true.1 hx
  have bm := pq_in bp bq
  have bg := gcd_pq bp.1 bq.1
  have bL := lcmI_in bp bq bg.1 bg.2
  have hs := sec_own h
  have p4 : p ≠ 4 := by intro e; rw [e, prime4] at h1; cases h1
  have q4 : q ≠ 4 := by intro e; rw [e, prime4] at h2; cases h2
  have h15 : 15 ≤ p * q := by
    by_cases hp : p = 3
    · have := Int.mul_le_mul_of_nonneg_left (show 5 ≤ q by omega) (show 0 ≤ p by omega)
      omega
    · have e1 := Int.mul_le_mul_of_nonneg_right (show 5 ≤ p by omega) (show 0 ≤ q by omega)
      omega
  refine ⟨plaus_true.2 ⟨⟨h15, by omega⟩, bx.1, bx.2⟩, inB_mk ⟨hs.1, by have := hs.2.1; omega⟩, h15, by omega⟩

set_option maxRecDepth 100000 in
set_option maxHeartbeats 4000000 in
theorem lsigned_ (p q x other : Int) (a : Alr) (A : Option Addr) (c : Nat) (w : World) (ha : AIn w a A c) (hr : Rdy w) :
    Calls Tryd.prog 6 #[.agg #[.int .i64 p, .int .i64 q, .int .i64 x], a.val A c, .int .i64 other] w fun e w' => e = .returned (.bool true) ∧ Below w.heap.size w w' := by
  have HA := Lib.hid ha
  have HR := Lib.hid hr
  clear ha hr
  by_cases hk : keyB p q x = true
  · obtain ⟨kp, ks, k15, kM⟩ := key_plaus hk
    have HKV : Hid (keyV p q x = ((p * q, x), secretI (lcmI p q) x, 0)) := by show _ = _; unfold keyV; rw [if_pos hk]
    by_cases ho : okA a = true
    · have hd := digL_in (textL a)
      have HC : Hid (signedC (p * q) x a = 0) := (signed_ok (num := 0) kp ho).2
      obtain ⟨sg, hsg⟩ : ∃ sg, sg = pw (digA a) (secretI (lcmI p q) x) (p * q) := ⟨_, rfl⟩
      have HU : Hid (signE (p * q) x (secretI (lcmI p q) x) a = (sg, 0)) := by show _ = _; rw [signE_ok kp ks ho, hsg]
      have HS1 : Hid (signedB (p * q) x sg a = true) := by show _ = _; rw [(signed_ok kp ho).1, hsg]; exact sig_own hk hd.1
      have HS2 : Hid (signedB (p * q) x (other % (p * q)) a = (other % (p * q) == sg)) := by
        show _ = _
        rw [(signed_ok kp ho).1, hsg]
        exact sig_only hk hd.1 ⟨Int.emod_nonneg _ (by omega), Int.emod_lt_of_pos _ (by omega)⟩
      clear hk kp ks ho hd hsg
      go_enter Tryd.func6, Tryd.ntmps6
      go_wp2_with fail
      refine (mk_is p q x (p * q) x (secretI (lcmI p q) x) 0 HKV.out _).mono ?_
      rintro e w1 ⟨rfl, hb⟩
      have Hw1 : Hid (Below (w.heap.size) (w) w1) := (show Below (w.heap.size) (w) _ from (by repeat (first | exact Below.refl _ _ | assumption | refine below_drewN ?_ _ | refine Below.drew ?_ | refine Below.setCell ?_ (by first | omega | (simp; done) | (simp; omega)) _ | refine Below.alloc ?_ (by first | omega | (simp; done) | (simp; omega)) _))).trans (hb.mono (by first | omega | (simp; done) | (simp; omega)))
      have Pw1 : Hid (Below (w.heap.size + 2) ((w.alloc (.cells #[.int .i64 p, .int .i64 q, .int .i64 x] 52)).alloc (.cells (a.val A c).cells 29)) w1) := (show Below (w.heap.size + 2) ((w.alloc (.cells #[.int .i64 p, .int .i64 q, .int .i64 x] 52)).alloc (.cells (a.val A c).cells 29)) _ from (by repeat (first | exact Below.refl _ _ | assumption | refine below_drewN ?_ _ | refine Below.drew ?_ | refine Below.setCell ?_ (by first | omega | (simp; done) | (simp; omega)) _ | refine Below.alloc ?_ (by first | omega | (simp; done) | (simp; omega)) _))).trans (hb.mono (by first | omega | (simp; done) | (simp; omega)))
      obtain ⟨hcPw1, hfPw1⟩ := bcell Pw1.out
      have hzw1 := hb.size
      try simp at hzw1
      clear hb
      have l0 : w.heap.size < w1.heap.size := by omega
      have l1 : w.heap.size + 1 < w1.heap.size := by omega
      go_wp2_with fail
      refine (Sign_v (p * q) x _ a A c _ sg 0 HU.out (HA.out.below (by repeat (first | exact Below.refl _ _ | exact (Hw1).out | refine below_drewN ?_ _ | refine Below.drew ?_ | refine Below.setCell ?_ (by first | omega | (simp; done) | (simp; omega)) _ | refine Below.alloc ?_ (by first | omega | (simp; done) | (simp; omega)) _))) (HR.out.below (by repeat (first | exact Below.refl _ _ | exact (Hw1).out | refine below_drewN ?_ _ | refine Below.drew ?_ | refine Below.setCell ?_ (by first | omega | (simp; done) | (simp; omega)) _ | refine Below.alloc ?_ (by first | omega | (simp; done) | (simp; omega)) _)))).mono ?_
      rintro e w2 ⟨rfl, hb⟩
      have Hw2 : Hid (Below (w.heap.size) (w) w2) := (show Below (w.heap.size) (w) _ from (by repeat (first | exact Below.refl _ _ | exact (Hw1).out | refine below_drewN ?_ _ | refine Below.drew ?_ | refine Below.setCell ?_ (by first | omega | (simp; done) | (simp; omega)) _ | refine Below.alloc ?_ (by first | omega | (simp; done) | (simp; omega)) _))).trans (hb.mono (by first | omega | (simp; done) | (simp; omega)))
      have Pw2 : Hid (Below (w.heap.size + 2) ((w.alloc (.cells #[.int .i64 p, .int .i64 q, .int .i64 x] 52)).alloc (.cells (a.val A c).cells 29)) w2) := (show Below (w.heap.size + 2) ((w.alloc (.cells #[.int .i64 p, .int .i64 q, .int .i64 x] 52)).alloc (.cells (a.val A c).cells 29)) _ from (by repeat (first | exact Below.refl _ _ | exact (Pw1).out | refine below_drewN ?_ _ | refine Below.drew ?_ | refine Below.setCell ?_ (by first | omega | (simp; done) | (simp; omega)) _ | refine Below.alloc ?_ (by first | omega | (simp; done) | (simp; omega)) _))).trans (hb.mono (by first | omega | (simp; done) | (simp; omega)))
      obtain ⟨hcPw2, hfPw2⟩ := bcell Pw2.out
      clear hcPw1 hfPw1
      have Xw2 : Hid (Below (w1.heap.size + 1) (w1.alloc (.cells #[.int .i64 (p * q), .int .i64 x] 54)) w2) := (show Below (w1.heap.size + 1) (w1.alloc (.cells #[.int .i64 (p * q), .int .i64 x] 54)) _ from (by repeat (first | exact Below.refl _ _ | assumption | refine below_drewN ?_ _ | refine Below.drew ?_ | refine Below.setCell ?_ (by first | omega | (simp; done) | (simp; omega)) _ | refine Below.alloc ?_ (by first | omega | (simp; done) | (simp; omega)) _))).trans (hb.mono (by first | omega | (simp; done) | (simp; omega)))
      obtain ⟨hcXw2, hfXw2⟩ := bcell Xw2.out
      have hzw2 := hb.size
      try simp at hzw2
      clear hb
      clear l0 l1
      have l0 : w.heap.size < w2.heap.size := by omega
      have l1 : w.heap.size + 1 < w2.heap.size := by omega
      have l2 : w1.heap.size < w2.heap.size := by omega
      go_wp2_with fail
      refine (Signed_v (p * q) x sg a A c _ true 0 HS1.out HC.out (HA.out.below Hw2.out) (HR.out.below Hw2.out)).mono ?_
      rintro e w3 ⟨rfl, hb⟩
      have Hw3 : Hid (Below (w.heap.size) (w) w3) := (show Below (w.heap.size) (w) _ from (by repeat (first | exact Below.refl _ _ | exact (Hw2).out | refine below_drewN ?_ _ | refine Below.drew ?_ | refine Below.setCell ?_ (by first | omega | (simp; done) | (simp; omega)) _ | refine Below.alloc ?_ (by first | omega | (simp; done) | (simp; omega)) _))).trans (hb.mono (by first | omega | (simp; done) | (simp; omega)))
      have Pw3 : Hid (Below (w.heap.size + 2) ((w.alloc (.cells #[.int .i64 p, .int .i64 q, .int .i64 x] 52)).alloc (.cells (a.val A c).cells 29)) w3) := (show Below (w.heap.size + 2) ((w.alloc (.cells #[.int .i64 p, .int .i64 q, .int .i64 x] 52)).alloc (.cells (a.val A c).cells 29)) _ from (by repeat (first | exact Below.refl _ _ | exact (Pw2).out | refine below_drewN ?_ _ | refine Below.drew ?_ | refine Below.setCell ?_ (by first | omega | (simp; done) | (simp; omega)) _ | refine Below.alloc ?_ (by first | omega | (simp; done) | (simp; omega)) _))).trans (hb.mono (by first | omega | (simp; done) | (simp; omega)))
      obtain ⟨hcPw3, hfPw3⟩ := bcell Pw3.out
      clear hcPw2 hfPw2
      have Xw3 : Hid (Below (w1.heap.size + 1) (w1.alloc (.cells #[.int .i64 (p * q), .int .i64 x] 54)) w3) := (show Below (w1.heap.size + 1) (w1.alloc (.cells #[.int .i64 (p * q), .int .i64 x] 54)) _ from (by repeat (first | exact Below.refl _ _ | exact (Xw2).out | refine below_drewN ?_ _ | refine Below.drew ?_ | refine Below.setCell ?_ (by first | omega | (simp; done) | (simp; omega)) _ | refine Below.alloc ?_ (by first | omega | (simp; done) | (simp; omega)) _))).trans (hb.mono (by first | omega | (simp; done) | (simp; omega)))
      obtain ⟨hcXw3, hfXw3⟩ := bcell Xw3.out
      clear hcXw2 hfXw2
      have hzw3 := hb.size
      try simp at hzw3
      clear hb
      clear l0 l1 l2
      have l0 : w.heap.size < w3.heap.size := by omega
      have l1 : w.heap.size + 1 < w3.heap.size := by omega
      have l2 : w1.heap.size < w3.heap.size := by omega
      go_wp2_with fail
      refine (Mod_ other (p * q) (by omega) (by omega) _).mono ?_
      rintro e w' ⟨rfl, rfl⟩
      go_wp2_with fail
      have HW3 := HS2.out
      refine (Signed_v (p * q) x (other % (p * q)) a A c _ (other % (p * q) == sg) 0 HS2.out HC.out (HA.out.below Hw3.out) (HR.out.below Hw3.out)).mono ?_
      rintro e w4 ⟨rfl, hb⟩
      have Hw4 : Hid (Below (w.heap.size) (w) w4) := (show Below (w.heap.size) (w) _ from (by repeat (first | exact Below.refl _ _ | exact (Hw3).out | refine below_drewN ?_ _ | refine Below.drew ?_ | refine Below.setCell ?_ (by first | omega | (simp; done) | (simp; omega)) _ | refine Below.alloc ?_ (by first | omega | (simp; done) | (simp; omega)) _))).trans (hb.mono (by first | omega | (simp; done) | (simp; omega)))
      have Pw4 : Hid (Below (w.heap.size + 2) ((w.alloc (.cells #[.int .i64 p, .int .i64 q, .int .i64 x] 52)).alloc (.cells (a.val A c).cells 29)) w4) := (show Below (w.heap.size + 2) ((w.alloc (.cells #[.int .i64 p, .int .i64 q, .int .i64 x] 52)).alloc (.cells (a.val A c).cells 29)) _ from (by repeat (first | exact Below.refl _ _ | exact (Pw3).out | refine below_drewN ?_ _ | refine Below.drew ?_ | refine Below.setCell ?_ (by first | omega | (simp; done) | (simp; omega)) _ | refine Below.alloc ?_ (by first | omega | (simp; done) | (simp; omega)) _))).trans (hb.mono (by first | omega | (simp; done) | (simp; omega)))
      obtain ⟨hcPw4, hfPw4⟩ := bcell Pw4.out
      clear hcPw3 hfPw3
      have Xw4 : Hid (Below (w1.heap.size + 1) (w1.alloc (.cells #[.int .i64 (p * q), .int .i64 x] 54)) w4) := (show Below (w1.heap.size + 1) (w1.alloc (.cells #[.int .i64 (p * q), .int .i64 x] 54)) _ from (by repeat (first | exact Below.refl _ _ | exact (Xw3).out | refine below_drewN ?_ _ | refine Below.drew ?_ | refine Below.setCell ?_ (by first | omega | (simp; done) | (simp; omega)) _ | refine Below.alloc ?_ (by first | omega | (simp; done) | (simp; omega)) _))).trans (hb.mono (by first | omega | (simp; done) | (simp; omega)))
      obtain ⟨hcXw4, hfXw4⟩ := bcell Xw4.out
      clear hcXw3 hfXw3
      have hzw4 := hb.size
      try simp at hzw4
      clear hb
      clear l0 l1 l2
      have l0 : w.heap.size < w4.heap.size := by omega
      have l1 : w.heap.size + 1 < w4.heap.size := by omega
      have l2 : w1.heap.size < w4.heap.size := by omega
      go_wp2_with fail
      refine (works_ _ (HR.out.below Hw4.out)).mono ?_
      rintro e w5 ⟨rfl, hb⟩
      have Hw5 : Hid (Below (w.heap.size) (w) w5) := (show Below (w.heap.size) (w) _ from (by repeat (first | exact Below.refl _ _ | exact (Hw4).out | refine below_drewN ?_ _ | refine Below.drew ?_ | refine Below.setCell ?_ (by first | omega | (simp; done) | (simp; omega)) _ | refine Below.alloc ?_ (by first | omega | (simp; done) | (simp; omega)) _))).trans (hb.mono (by first | omega | (simp; done) | (simp; omega)))
      have Pw5 : Hid (Below (w.heap.size + 2) ((w.alloc (.cells #[.int .i64 p, .int .i64 q, .int .i64 x] 52)).alloc (.cells (a.val A c).cells 29)) w5) := (show Below (w.heap.size + 2) ((w.alloc (.cells #[.int .i64 p, .int .i64 q, .int .i64 x] 52)).alloc (.cells (a.val A c).cells 29)) _ from (by repeat (first | exact Below.refl _ _ | exact (Pw4).out | refine below_drewN ?_ _ | refine Below.drew ?_ | refine Below.setCell ?_ (by first | omega | (simp; done) | (simp; omega)) _ | refine Below.alloc ?_ (by first | omega | (simp; done) | (simp; omega)) _))).trans (hb.mono (by first | omega | (simp; done) | (simp; omega)))
      obtain ⟨hcPw5, hfPw5⟩ := bcell Pw5.out
      clear hcPw4 hfPw4
      have Xw5 : Hid (Below (w1.heap.size + 1) (w1.alloc (.cells #[.int .i64 (p * q), .int .i64 x] 54)) w5) := (show Below (w1.heap.size + 1) (w1.alloc (.cells #[.int .i64 (p * q), .int .i64 x] 54)) _ from (by repeat (first | exact Below.refl _ _ | exact (Xw4).out | refine below_drewN ?_ _ | refine Below.drew ?_ | refine Below.setCell ?_ (by first | omega | (simp; done) | (simp; omega)) _ | refine Below.alloc ?_ (by first | omega | (simp; done) | (simp; omega)) _))).trans (hb.mono (by first | omega | (simp; done) | (simp; omega)))
      obtain ⟨hcXw5, hfXw5⟩ := bcell Xw5.out
      clear hcXw4 hfXw4
      have hzw5 := hb.size
      try simp at hzw5
      clear hb
      clear l0 l1 l2
      have l0 : w.heap.size < w5.heap.size := by omega
      have l1 : w.heap.size + 1 < w5.heap.size := by omega
      have l2 : w1.heap.size < w5.heap.size := by omega
      go_wp2_with fail
      go_ret
      exact ⟨rfl, Hw5.out⟩
    · have ho' : okA a = false := by simpa using ho
      have HU : Hid (signE (p * q) x (secretI (lcmI p q) x) a = (0, 101)) := signE_bad kp ks ho'
      clear hk kp ks ho ho'
      go_enter Tryd.func6, Tryd.ntmps6
      go_wp2_with fail
      refine (mk_is p q x (p * q) x (secretI (lcmI p q) x) 0 HKV.out _).mono ?_
      rintro e w1 ⟨rfl, hb⟩
      have Hw1 : Hid (Below (w.heap.size) (w) w1) := (show Below (w.heap.size) (w) _ from (by repeat (first | exact Below.refl _ _ | assumption | refine below_drewN ?_ _ | refine Below.drew ?_ | refine Below.setCell ?_ (by first | omega | (simp; done) | (simp; omega)) _ | refine Below.alloc ?_ (by first | omega | (simp; done) | (simp; omega)) _))).trans (hb.mono (by first | omega | (simp; done) | (simp; omega)))
      have Pw1 : Hid (Below (w.heap.size + 2) ((w.alloc (.cells #[.int .i64 p, .int .i64 q, .int .i64 x] 52)).alloc (.cells (a.val A c).cells 29)) w1) := (show Below (w.heap.size + 2) ((w.alloc (.cells #[.int .i64 p, .int .i64 q, .int .i64 x] 52)).alloc (.cells (a.val A c).cells 29)) _ from (by repeat (first | exact Below.refl _ _ | assumption | refine below_drewN ?_ _ | refine Below.drew ?_ | refine Below.setCell ?_ (by first | omega | (simp; done) | (simp; omega)) _ | refine Below.alloc ?_ (by first | omega | (simp; done) | (simp; omega)) _))).trans (hb.mono (by first | omega | (simp; done) | (simp; omega)))
      obtain ⟨hcPw1, hfPw1⟩ := bcell Pw1.out
      have hzw1 := hb.size
      try simp at hzw1
      clear hb
      have l0 : w.heap.size < w1.heap.size := by omega
      have l1 : w.heap.size + 1 < w1.heap.size := by omega
      go_wp2_with fail
      refine (Sign_v (p * q) x _ a A c _ 0 101 HU.out (HA.out.below (by repeat (first | exact Below.refl _ _ | exact (Hw1).out | refine below_drewN ?_ _ | refine Below.drew ?_ | refine Below.setCell ?_ (by first | omega | (simp; done) | (simp; omega)) _ | refine Below.alloc ?_ (by first | omega | (simp; done) | (simp; omega)) _))) (HR.out.below (by repeat (first | exact Below.refl _ _ | exact (Hw1).out | refine below_drewN ?_ _ | refine Below.drew ?_ | refine Below.setCell ?_ (by first | omega | (simp; done) | (simp; omega)) _ | refine Below.alloc ?_ (by first | omega | (simp; done) | (simp; omega)) _)))).mono ?_
      rintro e w2 ⟨rfl, hb⟩
      have Hw2 : Hid (Below (w.heap.size) (w) w2) := (show Below (w.heap.size) (w) _ from (by repeat (first | exact Below.refl _ _ | exact (Hw1).out | refine below_drewN ?_ _ | refine Below.drew ?_ | refine Below.setCell ?_ (by first | omega | (simp; done) | (simp; omega)) _ | refine Below.alloc ?_ (by first | omega | (simp; done) | (simp; omega)) _))).trans (hb.mono (by first | omega | (simp; done) | (simp; omega)))
      have Pw2 : Hid (Below (w.heap.size + 2) ((w.alloc (.cells #[.int .i64 p, .int .i64 q, .int .i64 x] 52)).alloc (.cells (a.val A c).cells 29)) w2) := (show Below (w.heap.size + 2) ((w.alloc (.cells #[.int .i64 p, .int .i64 q, .int .i64 x] 52)).alloc (.cells (a.val A c).cells 29)) _ from (by repeat (first | exact Below.refl _ _ | exact (Pw1).out | refine below_drewN ?_ _ | refine Below.drew ?_ | refine Below.setCell ?_ (by first | omega | (simp; done) | (simp; omega)) _ | refine Below.alloc ?_ (by first | omega | (simp; done) | (simp; omega)) _))).trans (hb.mono (by first | omega | (simp; done) | (simp; omega)))
      obtain ⟨hcPw2, hfPw2⟩ := bcell Pw2.out
      clear hcPw1 hfPw1
      have Xw2 : Hid (Below (w1.heap.size + 1) (w1.alloc (.cells #[.int .i64 (p * q), .int .i64 x] 54)) w2) := (show Below (w1.heap.size + 1) (w1.alloc (.cells #[.int .i64 (p * q), .int .i64 x] 54)) _ from (by repeat (first | exact Below.refl _ _ | assumption | refine below_drewN ?_ _ | refine Below.drew ?_ | refine Below.setCell ?_ (by first | omega | (simp; done) | (simp; omega)) _ | refine Below.alloc ?_ (by first | omega | (simp; done) | (simp; omega)) _))).trans (hb.mono (by first | omega | (simp; done) | (simp; omega)))
      obtain ⟨hcXw2, hfXw2⟩ := bcell Xw2.out
      have hzw2 := hb.size
      try simp at hzw2
      clear hb
      clear l0 l1
      have l0 : w.heap.size < w2.heap.size := by omega
      have l1 : w.heap.size + 1 < w2.heap.size := by omega
      have l2 : w1.heap.size < w2.heap.size := by omega
      go_wp2_with fail
      refine (works_ _ (HR.out.below Hw2.out)).mono ?_
      rintro e w3 ⟨rfl, hb⟩
      have Hw3 : Hid (Below (w.heap.size) (w) w3) := (show Below (w.heap.size) (w) _ from (by repeat (first | exact Below.refl _ _ | exact (Hw2).out | refine below_drewN ?_ _ | refine Below.drew ?_ | refine Below.setCell ?_ (by first | omega | (simp; done) | (simp; omega)) _ | refine Below.alloc ?_ (by first | omega | (simp; done) | (simp; omega)) _))).trans (hb.mono (by first | omega | (simp; done) | (simp; omega)))
      have Pw3 : Hid (Below (w.heap.size + 2) ((w.alloc (.cells #[.int .i64 p, .int .i64 q, .int .i64 x] 52)).alloc (.cells (a.val A c).cells 29)) w3) := (show Below (w.heap.size + 2) ((w.alloc (.cells #[.int .i64 p, .int .i64 q, .int .i64 x] 52)).alloc (.cells (a.val A c).cells 29)) _ from (by repeat (first | exact Below.refl _ _ | exact (Pw2).out | refine below_drewN ?_ _ | refine Below.drew ?_ | refine Below.setCell ?_ (by first | omega | (simp; done) | (simp; omega)) _ | refine Below.alloc ?_ (by first | omega | (simp; done) | (simp; omega)) _))).trans (hb.mono (by first | omega | (simp; done) | (simp; omega)))
      obtain ⟨hcPw3, hfPw3⟩ := bcell Pw3.out
      clear hcPw2 hfPw2
      have Xw3 : Hid (Below (w1.heap.size + 1) (w1.alloc (.cells #[.int .i64 (p * q), .int .i64 x] 54)) w3) := (show Below (w1.heap.size + 1) (w1.alloc (.cells #[.int .i64 (p * q), .int .i64 x] 54)) _ from (by repeat (first | exact Below.refl _ _ | exact (Xw2).out | refine below_drewN ?_ _ | refine Below.drew ?_ | refine Below.setCell ?_ (by first | omega | (simp; done) | (simp; omega)) _ | refine Below.alloc ?_ (by first | omega | (simp; done) | (simp; omega)) _))).trans (hb.mono (by first | omega | (simp; done) | (simp; omega)))
      obtain ⟨hcXw3, hfXw3⟩ := bcell Xw3.out
      clear hcXw2 hfXw2
      have hzw3 := hb.size
      try simp at hzw3
      clear hb
      clear l0 l1 l2
      have l0 : w.heap.size < w3.heap.size := by omega
      have l1 : w.heap.size + 1 < w3.heap.size := by omega
      have l2 : w1.heap.size < w3.heap.size := by omega
      go_wp2_with fail
      go_ret
      exact ⟨rfl, Hw3.out⟩
  · have HKV : Hid (keyV p q x = ((0, 0), 0, 100)) := by show _ = _; unfold keyV; rw [if_neg hk]
    clear hk
    go_enter Tryd.func6, Tryd.ntmps6
    go_wp2_with fail
    refine (mk_is p q x 0 0 0 100 HKV.out _).mono ?_
    rintro e w1 ⟨rfl, hb⟩
    have Hw1 : Hid (Below (w.heap.size) (w) w1) := (show Below (w.heap.size) (w) _ from (by repeat (first | exact Below.refl _ _ | assumption | refine below_drewN ?_ _ | refine Below.drew ?_ | refine Below.setCell ?_ (by first | omega | (simp; done) | (simp; omega)) _ | refine Below.alloc ?_ (by first | omega | (simp; done) | (simp; omega)) _))).trans (hb.mono (by first | omega | (simp; done) | (simp; omega)))
    have Pw1 : Hid (Below (w.heap.size + 2) ((w.alloc (.cells #[.int .i64 p, .int .i64 q, .int .i64 x] 52)).alloc (.cells (a.val A c).cells 29)) w1) := (show Below (w.heap.size + 2) ((w.alloc (.cells #[.int .i64 p, .int .i64 q, .int .i64 x] 52)).alloc (.cells (a.val A c).cells 29)) _ from (by repeat (first | exact Below.refl _ _ | assumption | refine below_drewN ?_ _ | refine Below.drew ?_ | refine Below.setCell ?_ (by first | omega | (simp; done) | (simp; omega)) _ | refine Below.alloc ?_ (by first | omega | (simp; done) | (simp; omega)) _))).trans (hb.mono (by first | omega | (simp; done) | (simp; omega)))
    obtain ⟨hcPw1, hfPw1⟩ := bcell Pw1.out
    have hzw1 := hb.size
    try simp at hzw1
    clear hb
    have l0 : w.heap.size < w1.heap.size := by omega
    have l1 : w.heap.size + 1 < w1.heap.size := by omega
    go_wp2_with fail
    refine (works_ _ (HR.out.below (by repeat (first | exact Below.refl _ _ | exact (Hw1).out | refine below_drewN ?_ _ | refine Below.drew ?_ | refine Below.setCell ?_ (by first | omega | (simp; done) | (simp; omega)) _ | refine Below.alloc ?_ (by first | omega | (simp; done) | (simp; omega)) _)))).mono ?_
    rintro e w2 ⟨rfl, hb⟩
    have Hw2 : Hid (Below (w.heap.size) (w) w2) := (show Below (w.heap.size) (w) _ from (by repeat (first | exact Below.refl _ _ | exact (Hw1).out | refine below_drewN ?_ _ | refine Below.drew ?_ | refine Below.setCell ?_ (by first | omega | (simp; done) | (simp; omega)) _ | refine Below.alloc ?_ (by first | omega | (simp; done) | (simp; omega)) _))).trans (hb.mono (by first | omega | (simp; done) | (simp; omega)))
    have Pw2 : Hid (Below (w.heap.size + 2) ((w.alloc (.cells #[.int .i64 p, .int .i64 q, .int .i64 x] 52)).alloc (.cells (a.val A c).cells 29)) w2) := (show Below (w.heap.size + 2) ((w.alloc (.cells #[.int .i64 p, .int .i64 q, .int .i64 x] 52)).alloc (.cells (a.val A c).cells 29)) _ from (by repeat (first | exact Below.refl _ _ | exact (Pw1).out | refine below_drewN ?_ _ | refine Below.drew ?_ | refine Below.setCell ?_ (by first | omega | (simp; done) | (simp; omega)) _ | refine Below.alloc ?_ (by first | omega | (simp; done) | (simp; omega)) _))).trans (hb.mono (by first | omega | (simp; done) | (simp; omega)))
    obtain ⟨hcPw2, hfPw2⟩ := bcell Pw2.out
    clear hcPw1 hfPw1
    have hzw2 := hb.size
    try simp at hzw2
    clear hb
    clear l0 l1
    have l0 : w.heap.size < w2.heap.size := by omega
    have l1 : w.heap.size + 1 < w2.heap.size := by omega
    go_wp2_with fail
    go_ret
    exact ⟨rfl, Hw2.out⟩


set_option maxRecDepth 100000 in
theorem alertSigned_contract (H : Type) (enc : TypeId × Value → H) (W : World) (base : Nat) (args : Array Value) (ds gs : List (DataW H)) (before : List MemPlace)
    (hval : ∀ (j : Nat) t v, Tryd.f6.params[j]? = some t → args[j]? = some v → Value.okWide Tryd.prog W .any base t v)
    (hW : DataW.Whole enc Tryd.prog Tryd.f6.params.toList Rows.alertSignedSpec.vars false W args.toList ds gs before)
    (hwt : (DataW.weightsEach Tryd.prog Tryd.f6.params.toList ds).all (· ≤ reachBytes) = true) (hL : laidMetH Tryd.prog Rows.alertSignedRow.laid W) :
    Calls Tryd.prog 6 args W fun e W' => ∃ v, e = .returned v ∧ Rows.alertSignedSpec.post enc Tryd.prog Tryd.f6 false true false false W args v W' := by
  have hlt : ∀ x ∈ before, x.block < W.heap.size := fun x hx => hW.lt x hx
  have hW' := hW
  obtain ⟨p, q, hA0, hV, rfl, _, _⟩ := hW
  have hA : DataW.TrodAll enc Tryd.prog W 0 (fun _ => true) true Tryd.f6.params.toList args.toList ds p := hA0
  have hrdy : Rdy W := rdyOf hL
  obtain ⟨rfl, rfl⟩ := trodVars_none hV
  rw [Tryd.params6] at hA hval hwt
  have rd : ∀ (j : Nat) (t : TypeId) (v : Value), ([52, 29, 3] : List TypeId)[j]? = some t → args.toList[j]? = some v → Rdg enc W W.heap.size t v.cells.toList := fun j t v h1 h2 =>
    rdgOf hA (fun x hx => hlt x (List.mem_append.2 (.inl hx))) hwt h1 h2
  obtain ⟨v0, vs0, d0, ds0, p0, q0, e0, rfl, rfl, h0, r0⟩ := trodAll_cons hA
  obtain ⟨v1, vs1, d1, ds1, p1, q1, e1, rfl, rfl, h1, r1⟩ := trodAll_cons r0
  obtain ⟨v2, vs2, d2, ds2, p2, q2, e2, rfl, rfl, h2, r2⟩ := trodAll_cons r1
  obtain ⟨rfl, rfl, rfl⟩ := trodAll_nil r2
  obtain rfl : args = #[v0, v1, v2] := by cases args; simp_all
  have walk : Calls Tryd.prog 6 #[v0, v1, v2] W fun e w' => e = .returned (.bool true) ∧ Below W.heap.size W w' := by
    obtain ⟨c0, hc0⟩ := okWide_arr Tryd.underlying52 (hval 0 52 v0 rfl rfl)
    obtain ⟨c1, hc1, _⟩ := okWide_struct Tryd.underlying29 (hval 1 29 v1 rfl rfl)
    obtain ⟨p, q, x, hp⟩ := arr_open (rd 0 52 v0 rfl rfl)
    obtain ⟨a, A, c, ha, hev, hs, _, _⟩ := alr_open (rd 1 29 v1 rfl rfl)
    obtain ⟨other, rfl, _, _⟩ := open_int Tryd.underlying3 (hval 2 3 v2 rfl rfl) h2
    subst hc0 hc1
    have e0 : c0 = #[.int .i64 p, .int .i64 q, .int .i64 x] := by rw [← Array.toList_inj]; exact hp
    have e1 : c1 = (a.lst A c).toArray := by rw [← Array.toList_inj]; exact ha
    subst e0 e1
    exact lsigned_ p q x other a A c W ⟨hev, hs⟩ hrdy
  refine walk.mono fun e W' ⟨he, hb⟩ => ?_
  subst he
  exact ⟨_, rfl, lawPost hW' rfl (by kernel_rfl) rfl (by rw [Tryd.params6]; intro t ht; simp at ht; rcases ht with rfl | rfl | rfl <;> exact ⟨by kernel_rfl, of_decide_eq_true (by kernel_rfl)⟩) hb⟩

theorem alertSigned_reads (os : Os) {H : Type} (enc : TypeId × Value → H) : ∃ places, DataW.whole enc Tryd.prog ((laidWorld os).forCall (fun _ _ => 0) ⟨#[], #[.agg #[.int .i64 0, .int .i64 0, .int .i64 0], .agg #[.string ⟨#[]⟩, .int .i64 0, .int .i64 0, .int .i64 0, .int .i64 0, .int .i64 0, .slice none 0 0, .bool false, .int .i64 0], .int .i64 0], []⟩).memory Tryd.f6.params.toList Rows.alertSignedSpec.vars false (#[.agg #[.int .i64 0, .int .i64 0, .int .i64 0], .agg #[.string ⟨#[]⟩, .int .i64 0, .int .i64 0, .int .i64 0, .int .i64 0, .int .i64 0, .slice none 0 0, .bool false, .int .i64 0], .int .i64 0] : Array Value).toList 8 = some ([.agg [.lit (.int .i64 0), .lit (.int .i64 0), .lit (.int .i64 0)], .agg [.lit (.string []), .lit (.int .i64 0), .lit (.int .i64 0), .agg [.lit (.int .i64 0), .lit (.int .i64 0)], .lit (.int .i64 0), .nil, .lit (.bool false), .lit (.int .i64 0)], .lit (.int .i64 0)], [], places) :=
  ⟨[], by kernel_rfl⟩
set_option maxRecDepth 100000 in
theorem alertSigned_lifted (os : Os) (started : os.Started) (H : Type) (enc : TypeId × Value → H) (F : Stop.Interp) :
    ReturnsInHanded {} Tryd.checked os 6 .any ((OpenSpec.ofChange Rows.alertSignedSpec).preRow enc Tryd.prog Tryd.f6 Rows.alertSignedRow.domain false Rows.alertSignedRow.laid) (((OpenSpec.ofChange Rows.alertSignedSpec).at F).post enc Tryd.prog Tryd.f6 false true false false) := by
  obtain ⟨places, hx⟩ := alertSigned_reads os enc
  refine returnsInHanded_of_row (C := Tryd.checked) (s := OpenSpec.ofChange Rows.alertSignedSpec) own started (by kernel_rfl) Tryd.func6
    (witness_row_at (enc := enc) (C := Tryd.checked) false (laidWorld os) #[.agg #[.int .i64 0, .int .i64 0, .int .i64 0], .agg #[.string ⟨#[]⟩, .int .i64 0, .int .i64 0, .int .i64 0, .int .i64 0, .int .i64 0, .slice none 0 0, .bool false, .int .i64 0], .int .i64 0] rfl (by kernel_rfl) (by kernel_rfl) (by kernel_rfl)
      (OpenSpec.preRow_of_cond 8 hx (by kernel_rfl) (fun k hk => by cases hk) (by kernel_rfl) (laid_met os _))) ?_
  intro W base args ds gs before hval hW _ _ hwt hL _ _
  refine alertSigned_contract H enc W base args ds gs before hval hW ?_ hL
  have hgs : gs = [] := by
    obtain ⟨p, q, _, hV, _⟩ := hW
    exact (trodVars_none hV).1
  subst hgs
  have hw2 : (DataW.weightsEach Tryd.prog (Tryd.f6.params.toList ++ []) (ds ++ [])).all (· ≤ reachBytes) = true := hwt
  rw [List.append_nil, List.append_nil] at hw2
  exact hw2
theorem alertSigned_said : Rows.AlertSignedSaid :=
  OpenClaim.holds_of_cond 6 Tryd.f6 rfl rfl rfl rfl rfl rfl rfl ⟨rfl, rfl, rfl, rfl, rfl⟩ rfl rfl rfl rfl rfl (by kernel_rfl) Tryd.func6 (by kernel_rfl)
    (of_decide_eq_true (by kernel_rfl)) (by unfold Func.isWrapper; first | (rw [if_pos (by decide +kernel)]; kernel_rfl) | (rw [if_neg (by decide +kernel)]; exact ⟨rfl, rfl⟩))
    (fun os started H enc _ F => by rw [OpenClaim.pre_eq_preRow]; exact alertSigned_lifted os started H enc F)
theorem alertSigned_plain (f : FuncId) (fn : Func) (hf : Tryd.pinned.checked.prog.funcNamed "ringdown/ringdownlaw10.AlertSigned" = some f) (hfn : Tryd.pinned.checked.prog.funcs[f]? = some fn) :
    false = Tryd.pinned.checked.prog.looks [] ∧ ∀ (j : Nat) t, fn.params[j]? = some t → Tryd.pinned.checked.prog.wantsStandIn t = false := by
  obtain rfl : f = 6 := Option.some.inj ((show Tryd.prog.funcNamed "ringdown/ringdownlaw10.AlertSigned" = some 6 by kernel_rfl).symm.trans hf) |>.symm
  obtain rfl : fn = Tryd.f6 := (Option.some.inj (Tryd.func6.symm.trans hfn)).symm
  refine ⟨by kernel_rfl, fun j t ht => ?_⟩
  rw [Tryd.params6] at ht
  have := Array.mem_of_getElem? ht
  simp at this
  rcases this with rfl | rfl | rfl
  · exact (show Tryd.prog.wantsStandIn 52 = false by kernel_rfl)
  · exact (show Tryd.prog.wantsStandIn 29 = false by kernel_rfl)
  · exact (show Tryd.prog.wantsStandIn 3 = false by kernel_rfl)
/-- The law's card. -/
theorem alertSigned_card : Rows.AlertSignedCardSaid :=
  Claim7.holds_tied_plain_at .later [] _ _ _ _ alertSigned_said (fun _ h => by cases h) (by kernel_rfl) (fun _ h => by cases h) alertSigned_row_tie rfl ⟨rfl, rfl⟩ (by kernel_rfl) rfl alertSigned_plain (by kernel_rfl)
end Go.Proofs.YtohfofecbdfkgaaDoor
