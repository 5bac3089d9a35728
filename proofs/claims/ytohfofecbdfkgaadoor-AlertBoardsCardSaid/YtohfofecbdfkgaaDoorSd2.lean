/-
  The walks of the specification's 'signed', and of Signed on both sides.
-/
import Derived.Test.YtohfofecbdfkgaaDoorSd
namespace Go.Proofs.YtohfofecbdfkgaaDoor
open Go.RowKit Al

set_option maxRecDepth 100000 in
set_option maxHeartbeats 1000000 in
theorem rsigned_ (m x num : Int) (a : Alr) (A : Option Addr) (c : Nat) (w : World) (h1 : plaus m x = true) (hk : okA a = true) (h : AIn w a A c) :
    Calls Tryd.prog 68 #[.agg #[.int .i64 m, .int .i64 x], a.val A c, .int .i64 num] w fun e w' => e = .returned (.bool (sigB m x (digA a) num)) ∧ Below w.heap.size w w' := by
  have b1 := plaus_true.1 h1
  have H1 := Lib.hid h1
  have HD := Lib.hid (digL_in (textL a))
  have hD1 : 0 ≤ digA a := HD.out.1
  have hD2 : digA a ≤ 2147483646 := HD.out.2
  have HK := Lib.hid hk
  have HA := Lib.hid h
  clear h1 hk h
  by_cases h2 : inB num 0 (m - 1) = true
  · have H2 := Lib.hid h2
    have b2 := inB_true.1 h2
    clear h2
    go_enter Tryd.func68, Tryd.ntmps68
    go_wp2_with fail
    refine wp_region_bw2 (by kernel_rfl) (by kernel_rfl) (fun hbwc => ?_)
    repeat (go_big_quiet_step ((first | (go_at_call 44; exact bwSame (In_is _ _ _ _ H2.out _)) | (go_at_call 66; exact bwSame (rpower_ _ _ _ (by omega) (by omega) (by omega) (by omega) (by omega) _)) | (go_at_call 57; exact bwCall (rdigestA a A c _ HK.out (AIn.below (HA.out.below (by (repeat (first | exact Below.refl _ _ | assumption | refine below_drewN ?_ _ | refine Below.drew ?_ | refine Below.setCell ?_ (by first | omega | (simp; done) | (simp; omega)) _ | refine Below.alloc ?_ (by first | omega | (simp; done) | (simp; omega)) _)))) (BW.below _)))))))
    refine wpQuiet_nil ?_
    clear hbwc
    intro w3 hb
    have Hw3 := Lib.hid ((show Below w.heap.size w _ from (by repeat (first | exact Below.refl _ _ | assumption | refine below_drewN ?_ _ | refine Below.drew ?_ | refine Below.setCell ?_ (by first | omega | (simp; done) | (simp; omega)) _ | refine Below.alloc ?_ (by first | omega | (simp; done) | (simp; omega)) _))).trans (hb.mono (by first | omega | (simp; done) | (simp; omega))))
    clear hb
    go_wp2_with fail
    go_ret
    exact ⟨ret_bool (sigB_yes H2.out).symm, Hw3.out⟩
  · have h2' : inB num 0 (m - 1) = false := by simpa using h2
    have H2 := Lib.hid h2'
    clear h2 h2'
    go_enter Tryd.func68, Tryd.ntmps68
    go_wp2_with fail
    go_quiet ((go_at_call 44; first | exact quietAdd (In_is _ _ _ _ H2.out _) | exact quiet0 (In_is _ _ _ _ H2.out _)))
    all_goals
      go_wp2_with fail
      go_ret
      exact ⟨ret_bool (sigB_no H2.out).symm, (by repeat (first | exact Below.refl _ _ | assumption | refine below_drewN ?_ _ | refine Below.drew ?_ | refine Below.setCell ?_ (by first | omega | (simp; done) | (simp; omega)) _ | refine Below.alloc ?_ (by first | omega | (simp; done) | (simp; omega)) _))⟩

/-- What Signed gives. -/
def signedB (m x num : Int) (a : Alr) : Bool := plaus m x && (okA a && sigB m x (digA a) num)
def signedC (m x : Int) (a : Alr) : Int := if plaus m x then errA (okA a) 101 else 100
def SignedRet (m x num : Int) (a : Alr) (w : World) (e : Ending) (w' : World) : Prop := e = .returned (.tuple #[.bool (signedB m x num a), .int .i64 (signedC m x a)]) ∧ Below w.heap.size w w'
theorem signed_ok {m x num : Int} {a : Alr} (h1 : plaus m x = true) (h2 : okA a = true) : signedB m x num a = sigB m x (digA a) num ∧ signedC m x a = 0 := by
  unfold signedB signedC; rw [h1, h2]; exact ⟨rfl, rfl⟩
theorem signed_bad {m x num : Int} {a : Alr} (h1 : plaus m x = true) (h2 : okA a = false) : signedB m x num a = false ∧ signedC m x a = 101 := by
  unfold signedB signedC; rw [h1, h2]; exact ⟨rfl, rfl⟩
theorem signed_not {m x num : Int} {a : Alr} (h1 : plaus m x = false) : signedB m x num a = false ∧ signedC m x a = 100 := by
  unfold signedB signedC; rw [h1]; exact ⟨rfl, rfl⟩

set_option maxRecDepth 100000 in
set_option maxHeartbeats 1000000 in
theorem Signed_ (m x num : Int) (a : Alr) (A : Option Addr) (c : Nat) (w : World) (h : AIn w a A c) (hr : Rdy w) :
    Calls Tryd.prog 27 #[.agg #[.int .i64 m, .int .i64 x], a.val A c, .int .i64 num] w (SignedRet m x num a w) := by
  have HA := Lib.hid h
  have HR := Lib.hid hr
  clear h hr
  by_cases h1 : plaus m x = true
  · have H1 := Lib.hid h1
    by_cases hk : okA a = true
    · have HK := Lib.hid hk
      have HD := Lib.hid (digL_in (textL a))
      clear h1 hk
      go_enter Tryd.func27, Tryd.ntmps27
      go_wp2_with fail
      refine (plausible_is _ _ _ H1.out _).mono ?_
      rintro e w1 ⟨rfl, hb⟩
      obtain ⟨hcw1, hfw1⟩ := bcell hb
      have Hw1 := Lib.hid ((show Below w.heap.size w _ from (by repeat (first | exact Below.refl _ _ | assumption | refine below_drewN ?_ _ | refine Below.drew ?_ | refine Below.setCell ?_ (by first | omega | (simp; done) | (simp; omega)) _ | refine Below.alloc ?_ (by first | omega | (simp; done) | (simp; omega)) _))).trans (hb.mono (by first | omega | (simp; done) | (simp; omega))))
      have hzw1 := hb.size
      try simp at hzw1
      clear hb
      go_wp2_with fail
      refine (Digest_t a A c _ HK.out (HA.out.below Hw1.out) (HR.out.below Hw1.out)).mono ?_
      rintro e w2 ⟨rfl, hb⟩
      obtain ⟨hcw2, hfw2⟩ := bcell hb
      have Hw2 := Lib.hid ((show Below w.heap.size w _ from (by repeat (first | exact Below.refl _ _ | exact (Hw1).out | refine below_drewN ?_ _ | refine Below.drew ?_ | refine Below.setCell ?_ (by first | omega | (simp; done) | (simp; omega)) _ | refine Below.alloc ?_ (by first | omega | (simp; done) | (simp; omega)) _))).trans (hb.mono (by first | omega | (simp; done) | (simp; omega))))
      have hzw2 := hb.size
      try simp at hzw2
      clear hb
      have hz3 : w.heap.size < w1.heap.size := by omega
      go_wp2_with fail
      refine (signed_ m x _ num _ H1.out HD.out).mono ?_
      rintro e w3 ⟨rfl, hb⟩
      obtain ⟨hcw3, hfw3⟩ := bcell hb
      have Hw3 := Lib.hid ((show Below w.heap.size w _ from (by repeat (first | exact Below.refl _ _ | exact (Hw2).out | refine below_drewN ?_ _ | refine Below.drew ?_ | refine Below.setCell ?_ (by first | omega | (simp; done) | (simp; omega)) _ | refine Below.alloc ?_ (by first | omega | (simp; done) | (simp; omega)) _))).trans (hb.mono (by first | omega | (simp; done) | (simp; omega))))
      have hzw3 := hb.size
      try simp at hzw3
      clear hb
      go_wp2_with fail
      go_ret2
      exact ⟨retb2 (signed_ok H1.out HK.out).1.symm (signed_ok (num := num) H1.out HK.out).2.symm, Hw3.out⟩
    · have hk' : okA a = false := by simpa using hk
      have HK := Lib.hid hk'
      clear h1 hk hk'
      go_enter Tryd.func27, Tryd.ntmps27
      go_wp2_with fail
      refine (plausible_is _ _ _ H1.out _).mono ?_
      rintro e w1 ⟨rfl, hb⟩
      obtain ⟨hcw1, hfw1⟩ := bcell hb
      have Hw1 := Lib.hid ((show Below w.heap.size w _ from (by repeat (first | exact Below.refl _ _ | assumption | refine below_drewN ?_ _ | refine Below.drew ?_ | refine Below.setCell ?_ (by first | omega | (simp; done) | (simp; omega)) _ | refine Below.alloc ?_ (by first | omega | (simp; done) | (simp; omega)) _))).trans (hb.mono (by first | omega | (simp; done) | (simp; omega))))
      have hzw1 := hb.size
      try simp at hzw1
      clear hb
      go_wp2_with fail
      refine (Digest_f a A c _ HK.out (HA.out.below Hw1.out) (HR.out.below Hw1.out)).mono ?_
      rintro e w2 ⟨rfl, hb⟩
      obtain ⟨hcw2, hfw2⟩ := bcell hb
      have Hw2 := Lib.hid ((show Below w.heap.size w _ from (by repeat (first | exact Below.refl _ _ | exact (Hw1).out | refine below_drewN ?_ _ | refine Below.drew ?_ | refine Below.setCell ?_ (by first | omega | (simp; done) | (simp; omega)) _ | refine Below.alloc ?_ (by first | omega | (simp; done) | (simp; omega)) _))).trans (hb.mono (by first | omega | (simp; done) | (simp; omega))))
      have hzw2 := hb.size
      try simp at hzw2
      clear hb
      go_wp2_with fail
      go_ret2
      exact ⟨retb2 (signed_bad H1.out HK.out).1.symm (signed_bad (num := num) H1.out HK.out).2.symm, Hw2.out⟩
  · have h1' : plaus m x = false := by simpa using h1
    have H1 := Lib.hid h1'
    clear h1 h1'
    go_enter Tryd.func27, Tryd.ntmps27
    go_wp2_with fail
    refine (plausible_is _ _ _ H1.out _).mono ?_
    rintro e w1 ⟨rfl, hb⟩
    obtain ⟨hcw1, hfw1⟩ := bcell hb
    have Hw1 := Lib.hid ((show Below w.heap.size w _ from (by repeat (first | exact Below.refl _ _ | assumption | refine below_drewN ?_ _ | refine Below.drew ?_ | refine Below.setCell ?_ (by first | omega | (simp; done) | (simp; omega)) _ | refine Below.alloc ?_ (by first | omega | (simp; done) | (simp; omega)) _))).trans (hb.mono (by first | omega | (simp; done) | (simp; omega))))
    have hzw1 := hb.size
    try simp at hzw1
    clear hb
    go_wp2_with fail
    go_ret2
    exact ⟨retb2 (signed_not H1.out).1.symm (signed_not (num := num) (a := a) H1.out).2.symm, Hw1.out⟩

set_option maxRecDepth 100000 in
set_option maxHeartbeats 1000000 in
theorem rSigned_ (m x num : Int) (a : Alr) (A : Option Addr) (c : Nat) (w : World) (h : AIn w a A c) :
    Calls Tryd.prog 28 #[.agg #[.int .i64 m, .int .i64 x], a.val A c, .int .i64 num] w (SignedRet m x num a w) := by
  have HA := Lib.hid h
  clear h
  by_cases h1 : plaus m x = true
  · have H1 := Lib.hid h1
    by_cases hk : okA a = true
    · have HK := Lib.hid hk
      clear h1 hk
      go_enter Tryd.func28, Tryd.ntmps28
      go_wp2_with fail
      refine (rplausible_is _ _ _ H1.out _).mono ?_
      rintro e w1 ⟨rfl, hb⟩
      obtain ⟨hcw1, hfw1⟩ := bcell hb
      have Hw1 := Lib.hid ((show Below w.heap.size w _ from (by repeat (first | exact Below.refl _ _ | assumption | refine below_drewN ?_ _ | refine Below.drew ?_ | refine Below.setCell ?_ (by first | omega | (simp; done) | (simp; omega)) _ | refine Below.alloc ?_ (by first | omega | (simp; done) | (simp; omega)) _))).trans (hb.mono (by first | omega | (simp; done) | (simp; omega))))
      have hzw1 := hb.size
      try simp at hzw1
      clear hb
      go_wp2_with fail
      refine (rcheckA_is a A c _ 0 (errA_t HK.out) (HA.out.below Hw1.out)).mono ?_
      rintro e w2 ⟨rfl, hb⟩
      obtain ⟨hcw2, hfw2⟩ := bcell hb
      have Hw2 := Lib.hid ((show Below w.heap.size w _ from (by repeat (first | exact Below.refl _ _ | exact (Hw1).out | refine below_drewN ?_ _ | refine Below.drew ?_ | refine Below.setCell ?_ (by first | omega | (simp; done) | (simp; omega)) _ | refine Below.alloc ?_ (by first | omega | (simp; done) | (simp; omega)) _))).trans (hb.mono (by first | omega | (simp; done) | (simp; omega))))
      have hzw2 := hb.size
      try simp at hzw2
      clear hb
      have hz3 : w.heap.size < w1.heap.size := by omega
      have hz4 : w.heap.size + 1 < w1.heap.size := by omega
      have hz5 : w.heap.size < w2.heap.size := by omega
      have hz6 : w.heap.size + 1 < w2.heap.size := by omega
      go_wp2_with fail
      refine (rsigned_ m x num a A c _ H1.out HK.out (HA.out.below Hw2.out)).mono ?_
      rintro e w3 ⟨rfl, hb⟩
      obtain ⟨hcw3, hfw3⟩ := bcell hb
      have Hw3 := Lib.hid ((show Below w.heap.size w _ from (by repeat (first | exact Below.refl _ _ | exact (Hw2).out | refine below_drewN ?_ _ | refine Below.drew ?_ | refine Below.setCell ?_ (by first | omega | (simp; done) | (simp; omega)) _ | refine Below.alloc ?_ (by first | omega | (simp; done) | (simp; omega)) _))).trans (hb.mono (by first | omega | (simp; done) | (simp; omega))))
      have hzw3 := hb.size
      try simp at hzw3
      clear hb
      go_wp2_with fail
      go_ret2
      exact ⟨retb2 (signed_ok H1.out HK.out).1.symm (signed_ok (num := num) H1.out HK.out).2.symm, Hw3.out⟩
    · have hk' : okA a = false := by simpa using hk
      have HK := Lib.hid hk'
      clear h1 hk hk'
      go_enter Tryd.func28, Tryd.ntmps28
      go_wp2_with fail
      refine (rplausible_is _ _ _ H1.out _).mono ?_
      rintro e w1 ⟨rfl, hb⟩
      obtain ⟨hcw1, hfw1⟩ := bcell hb
      have Hw1 := Lib.hid ((show Below w.heap.size w _ from (by repeat (first | exact Below.refl _ _ | assumption | refine below_drewN ?_ _ | refine Below.drew ?_ | refine Below.setCell ?_ (by first | omega | (simp; done) | (simp; omega)) _ | refine Below.alloc ?_ (by first | omega | (simp; done) | (simp; omega)) _))).trans (hb.mono (by first | omega | (simp; done) | (simp; omega))))
      have hzw1 := hb.size
      try simp at hzw1
      clear hb
      go_wp2_with fail
      refine (rcheckA_is a A c _ 101 (errA_f HK.out) (HA.out.below Hw1.out)).mono ?_
      rintro e w2 ⟨rfl, hb⟩
      obtain ⟨hcw2, hfw2⟩ := bcell hb
      have Hw2 := Lib.hid ((show Below w.heap.size w _ from (by repeat (first | exact Below.refl _ _ | exact (Hw1).out | refine below_drewN ?_ _ | refine Below.drew ?_ | refine Below.setCell ?_ (by first | omega | (simp; done) | (simp; omega)) _ | refine Below.alloc ?_ (by first | omega | (simp; done) | (simp; omega)) _))).trans (hb.mono (by first | omega | (simp; done) | (simp; omega))))
      have hzw2 := hb.size
      try simp at hzw2
      clear hb
      go_wp2_with fail
      go_ret2
      exact ⟨retb2 (signed_bad H1.out HK.out).1.symm (signed_bad (num := num) H1.out HK.out).2.symm, Hw2.out⟩
  · have h1' : plaus m x = false := by simpa using h1
    have H1 := Lib.hid h1'
    clear h1 h1'
    go_enter Tryd.func28, Tryd.ntmps28
    go_wp2_with fail
    refine (rplausible_is _ _ _ H1.out _).mono ?_
    rintro e w1 ⟨rfl, hb⟩
    obtain ⟨hcw1, hfw1⟩ := bcell hb
    have Hw1 := Lib.hid ((show Below w.heap.size w _ from (by repeat (first | exact Below.refl _ _ | assumption | refine below_drewN ?_ _ | refine Below.drew ?_ | refine Below.setCell ?_ (by first | omega | (simp; done) | (simp; omega)) _ | refine Below.alloc ?_ (by first | omega | (simp; done) | (simp; omega)) _))).trans (hb.mono (by first | omega | (simp; done) | (simp; omega))))
    have hzw1 := hb.size
    try simp at hzw1
    clear hb
    go_wp2_with fail
    go_ret2
    exact ⟨retb2 (signed_not H1.out).1.symm (signed_not (num := num) (a := a) H1.out).2.symm, Hw1.out⟩
end Go.Proofs.YtohfofecbdfkgaaDoor
