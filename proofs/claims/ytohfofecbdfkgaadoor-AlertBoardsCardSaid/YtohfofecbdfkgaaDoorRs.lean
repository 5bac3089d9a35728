/-
  The walks of the specification's Sign and Signed.
-/
import Derived.Test.YtohfofecbdfkgaaDoorSh
import Derived.Deep.RegionHeld3
namespace Go.Proofs.YtohfofecbdfkgaaDoor
open Go.RowKit Al

set_option maxRecDepth 100000 in
set_option maxHeartbeats 1000000 in
theorem rSign_ (m x s : Int) (a : Alr) (A : Option Addr) (c : Nat) (w : World) (h : AIn w a A c) :
    Calls Tryd.prog 26 #[.agg #[.int .i64 m, .int .i64 x], .int .i64 s, a.val A c] w (SignRet (signE m x s a) w) := by
  have HA := Lib.hid h
  clear h
  by_cases h1 : plaus m x = true
  · have H1 := Lib.hid h1
    have b1 := plaus_true.1 h1
    by_cases h2 : inB s 1 1073741824 = true
    · have H2 := Lib.hid h2
      have b2 := inB_true.1 h2
      by_cases hk : okA a = true
      · have HK := Lib.hid hk
        have HD := Lib.hid (digL_in (textL a))
        clear h1 h2 hk
        go_enter Tryd.func26, Tryd.ntmps26
        go_wp2_with fail
        refine (rplausible_is _ _ _ H1.out _).mono ?_
        rintro e w1 ⟨rfl, hb⟩
        obtain ⟨hcw1, hfw1⟩ := bcell hb
        have Hw1 := Lib.hid ((show Below w.heap.size w _ from (by repeat (first | exact Below.refl _ _ | assumption | refine below_drewN ?_ _ | refine Below.drew ?_ | refine Below.setCell ?_ (by first | omega | (simp; done) | (simp; omega)) _ | refine Below.alloc ?_ (by first | omega | (simp; done) | (simp; omega)) _))).trans (hb.mono (by first | omega | (simp; done) | (simp; omega))))
        have hzw1 := hb.size
        try simp at hzw1
        clear hb
        go_wp2_with (go_at_call 44; refine (In_is _ _ _ _ H2.out _).mono ?_; rintro e w' ⟨rfl, rfl⟩)
        refine (rcheckA_is a A c _ 0 (errA_t HK.out) (HA.out.below Hw1.out)).mono ?_
        rintro e w2 ⟨rfl, hb⟩
        obtain ⟨hcw2, hfw2⟩ := bcell hb
        have Hw2 := Lib.hid ((show Below w.heap.size w _ from (by repeat (first | exact Below.refl _ _ | exact (Hw1).out | refine below_drewN ?_ _ | refine Below.drew ?_ | refine Below.setCell ?_ (by first | omega | (simp; done) | (simp; omega)) _ | refine Below.alloc ?_ (by first | omega | (simp; done) | (simp; omega)) _))).trans (hb.mono (by first | omega | (simp; done) | (simp; omega))))
        have hzw2 := hb.size
        try simp at hzw2
        clear hb
        have hz3 : w.heap.size < w1.heap.size := by omega
        go_wp2_with fail
        have Hd := Lib.hid (HA.out.below Hw2.out)
        have hz3 : w.heap.size < w1.heap.size := by omega
        have hz4 : w.heap.size + 1 < w1.heap.size := by omega
        have hz5 : w.heap.size < w2.heap.size := by omega
        have hz6 : w.heap.size + 1 < w2.heap.size := by omega
        go_region_with (first
          | (go_at_call 57; refine (rdigestA a A c _ HK.out (Hd.out.below (by repeat (first | exact Below.refl _ _ | assumption | refine below_drewN ?_ _ | refine Below.drew ?_ | refine Below.setCell ?_ (by first | omega | (simp; done) | (simp; omega)) _ | refine Below.alloc ?_ (by first | omega | (simp; done) | (simp; omega)) _)))).mono ?_; rintro e w3 ⟨rfl, hb⟩; obtain ⟨hcw3, hfw3⟩ := bcell (show Below w2.heap.size _ _ from hb); have Hw3 := Lib.hid (Hw2.out.trans ((show Below w2.heap.size w2 w3 from (show Below w2.heap.size w2 _ from (by repeat (first | exact Below.refl _ _ | assumption | refine below_drewN ?_ _ | refine Below.drew ?_ | refine Below.setCell ?_ (by first | omega | (simp; done) | (simp; omega)) _ | refine Below.alloc ?_ (by first | omega | (simp; done) | (simp; omega)) _))).trans hb).mono Hw2.out.size)); clear hb)
          | (go_at_call 66; refine (rpower_ _ _ _ HD.out.1 (by omega) (by omega) (by omega) (by omega) _).mono ?_; rintro e w4 ⟨rfl, rfl⟩))
        all_goals
          go_wp2_with fail
          go_ret2
          exact ⟨by rw [signE_ok H1.out H2.out HK.out]; rfl, Hw3.out⟩
      · have hk' : okA a = false := by simpa using hk
        have HK := Lib.hid hk'
        clear h1 h2 hk hk'
        go_enter Tryd.func26, Tryd.ntmps26
        go_wp2_with fail
        refine (rplausible_is _ _ _ H1.out _).mono ?_
        rintro e w1 ⟨rfl, hb⟩
        obtain ⟨hcw1, hfw1⟩ := bcell hb
        have Hw1 := Lib.hid ((show Below w.heap.size w _ from (by repeat (first | exact Below.refl _ _ | assumption | refine below_drewN ?_ _ | refine Below.drew ?_ | refine Below.setCell ?_ (by first | omega | (simp; done) | (simp; omega)) _ | refine Below.alloc ?_ (by first | omega | (simp; done) | (simp; omega)) _))).trans (hb.mono (by first | omega | (simp; done) | (simp; omega))))
        have hzw1 := hb.size
        try simp at hzw1
        clear hb
        go_wp2_with (go_at_call 44; refine (In_is _ _ _ _ H2.out _).mono ?_; rintro e w' ⟨rfl, rfl⟩)
        refine (rcheckA_is a A c _ 101 (errA_f HK.out) (HA.out.below Hw1.out)).mono ?_
        rintro e w2 ⟨rfl, hb⟩
        obtain ⟨hcw2, hfw2⟩ := bcell hb
        have Hw2 := Lib.hid ((show Below w.heap.size w _ from (by repeat (first | exact Below.refl _ _ | exact (Hw1).out | refine below_drewN ?_ _ | refine Below.drew ?_ | refine Below.setCell ?_ (by first | omega | (simp; done) | (simp; omega)) _ | refine Below.alloc ?_ (by first | omega | (simp; done) | (simp; omega)) _))).trans (hb.mono (by first | omega | (simp; done) | (simp; omega))))
        have hzw2 := hb.size
        try simp at hzw2
        clear hb
        go_wp2_with fail
        go_ret2
        exact ⟨by rw [signE_bad H1.out H2.out HK.out]; rfl, Hw2.out⟩
    · have h2' : inB s 1 1073741824 = false := by simpa using h2
      have H2 := Lib.hid h2'
      clear h1 h2 h2'
      go_enter Tryd.func26, Tryd.ntmps26
      go_wp2_with fail
      refine (rplausible_is _ _ _ H1.out _).mono ?_
      rintro e w1 ⟨rfl, hb⟩
      obtain ⟨hcw1, hfw1⟩ := bcell hb
      have Hw1 := Lib.hid ((show Below w.heap.size w _ from (by repeat (first | exact Below.refl _ _ | assumption | refine below_drewN ?_ _ | refine Below.drew ?_ | refine Below.setCell ?_ (by first | omega | (simp; done) | (simp; omega)) _ | refine Below.alloc ?_ (by first | omega | (simp; done) | (simp; omega)) _))).trans (hb.mono (by first | omega | (simp; done) | (simp; omega))))
      have hzw1 := hb.size
      try simp at hzw1
      clear hb
      go_wp2_with (go_at_call 44; refine (In_is _ _ _ _ H2.out _).mono ?_; rintro e w' ⟨rfl, rfl⟩)
      go_ret2
      exact ⟨by rw [signE_no (.inr H2.out)]; rfl, Hw1.out⟩
  · have h1' : plaus m x = false := by simpa using h1
    have H1 := Lib.hid h1'
    clear h1 h1'
    go_enter Tryd.func26, Tryd.ntmps26
    go_wp2_with fail
    refine (rplausible_is _ _ _ H1.out _).mono ?_
    rintro e w1 ⟨rfl, hb⟩
    obtain ⟨hcw1, hfw1⟩ := bcell hb
    have Hw1 := Lib.hid ((show Below w.heap.size w _ from (by repeat (first | exact Below.refl _ _ | assumption | refine below_drewN ?_ _ | refine Below.drew ?_ | refine Below.setCell ?_ (by first | omega | (simp; done) | (simp; omega)) _ | refine Below.alloc ?_ (by first | omega | (simp; done) | (simp; omega)) _))).trans (hb.mono (by first | omega | (simp; done) | (simp; omega))))
    have hzw1 := hb.size
    try simp at hzw1
    clear hb
    go_wp2_with fail
    go_ret2
    exact ⟨by rw [signE_no (.inl H1.out)]; rfl, Hw1.out⟩

end Go.Proofs.YtohfofecbdfkgaaDoor
