/-
  The walks of Sign and Signed, and those of the specification.
-/
import Derived.Test.YtohfofecbdfkgaaDoorSg
import Derived.Deep.RegionHeld3
namespace Go.Proofs.YtohfofecbdfkgaaDoor
open Go.RowKit Al

theorem plausible_is (m x : Int) (b : Bool) (h : plaus m x = b) (w : World) :
    Calls Tryd.prog 63 #[.agg #[.int .i64 m, .int .i64 x]] w fun e' w' => e' = .returned (.bool b) ∧ Below w.heap.size w w' := h ▸ plausible_ m x w
theorem rplausible_ (m x : Int) (w : World) :
    Calls Tryd.prog 45 #[.agg #[.int .i64 m, .int .i64 x]] w fun e' w' => e' = .returned (.bool (plaus m x)) ∧ Below w.heap.size w w' := by
  go_enter Tryd.func45, Tryd.ntmps45
  go_wp2_with (go_at_call 44; refine (In_ _ _ _ _).mono ?_; rintro e w' ⟨rfl, rfl⟩)
  all_goals go_ret
  all_goals exact ⟨ret_bool (by simp [plaus, *]), (by repeat (first | exact Below.refl _ _ | assumption | refine below_drewN ?_ _ | refine Below.drew ?_ | refine Below.setCell ?_ (by first | omega | (simp; done) | (simp; omega)) _ | refine Below.alloc ?_ (by first | omega | (simp; done) | (simp; omega)) _))⟩
theorem rplausible_is (m x : Int) (b : Bool) (h : plaus m x = b) (w : World) :
    Calls Tryd.prog 45 #[.agg #[.int .i64 m, .int .i64 x]] w fun e' w' => e' = .returned (.bool b) ∧ Below w.heap.size w w' := h ▸ rplausible_ m x w
theorem validA_is (a : Alr) (A : Option Addr) (c : Nat) (w : World) (b : Bool) (hk : okA a = b) (h : AIn w a A c) :
    Calls Tryd.prog 76 #[a.val A c] w fun e w' => e = .returned (.bool b) ∧ Below w.heap.size w w' := hk ▸ validA a A c w h
theorem rcheckA_is (a : Alr) (A : Option Addr) (c : Nat) (w : World) (v : Int) (hk : errA (okA a) 101 = v) (h : AIn w a A c) :
    Calls Tryd.prog 65 #[a.val A c] w fun e w' => e = .returned (.int .i64 v) ∧ Below w.heap.size w w' := hk ▸ rcheckA a A c w h
theorem Digest_t (a : Alr) (A : Option Addr) (c : Nat) (w : World) (hk : okA a = true) (h : AIn w a A c) (hr : Rdy w) :
    Calls Tryd.prog 34 #[a.val A c] w fun e w' => e = .returned (.tuple #[.int .i64 (digA a), .int .i64 0]) ∧ Below w.heap.size w w' := by
  have := Digest_ a A c w h hr
  rw [digE_t hk, errA_t hk] at this
  exact this
theorem Digest_f (a : Alr) (A : Option Addr) (c : Nat) (w : World) (hk : okA a = false) (h : AIn w a A c) (hr : Rdy w) :
    Calls Tryd.prog 34 #[a.val A c] w fun e w' => e = .returned (.tuple #[.int .i64 0, .int .i64 101]) ∧ Below w.heap.size w w' := by
  have := Digest_ a A c w h hr
  rw [digE_f hk, errA_f hk] at this
  exact this

/-- What Sign gives: the number, and the error. -/
def signE (m x s : Int) (a : Alr) : Int × Int := if plaus m x && inB s 1 1073741824 then (if okA a then (pw (digA a) s m, 0) else (0, 101)) else (0, 100)
theorem signE_no {m x s : Int} {a : Alr} (h : plaus m x = false ∨ inB s 1 1073741824 = false) : signE m x s a = (0, 100) := by
  unfold signE
  rw [if_neg]
  intro hh
  rw [Bool.and_eq_true] at hh
  rcases h with h | h
  · rw [h] at hh; cases hh.1
  · rw [h] at hh; cases hh.2
theorem signE_bad {m x s : Int} {a : Alr} (h1 : plaus m x = true) (h2 : inB s 1 1073741824 = true) (h : okA a = false) : signE m x s a = (0, 101) := by
  unfold signE; rw [h1, h2, h]; rfl
theorem signE_ok {m x s : Int} {a : Alr} (h1 : plaus m x = true) (h2 : inB s 1 1073741824 = true) (h : okA a = true) : signE m x s a = (pw (digA a) s m, 0) := by
  unfold signE; rw [h1, h2, h]; rfl
def SignRet (p : Int × Int) (w : World) (e : Ending) (w' : World) : Prop := e = .returned (.tuple #[.int .i64 p.1, .int .i64 p.2]) ∧ Below w.heap.size w w'

set_option maxRecDepth 100000 in
set_option maxHeartbeats 1000000 in
theorem Sign_ (m x s : Int) (a : Alr) (A : Option Addr) (c : Nat) (w : World) (h : AIn w a A c) (hr : Rdy w) :
    Calls Tryd.prog 25 #[.agg #[.int .i64 m, .int .i64 x], .int .i64 s, a.val A c] w (SignRet (signE m x s a) w) := by
  have HA := Lib.hid h
  have HR := Lib.hid hr
  clear h hr
  by_cases h1 : plaus m x = true
  · have H1 := Lib.hid h1
    have b1 := plaus_true.1 h1
    by_cases h2 : inB s 1 1073741824 = true
    · have H2 := Lib.hid h2
      have b2 := inB_true.1 h2
      by_cases hk : okA a = true
      · have HK := Lib.hid hk
        have HD := Lib.hid (digL_in (textL a))
        clear h1 h2 hk
        go_enter Tryd.func25, Tryd.ntmps25
        go_wp2_with fail
        refine (plausible_is _ _ _ H1.out _).mono ?_
        rintro e w1 ⟨rfl, hb⟩
        obtain ⟨hcw1, hfw1⟩ := bcell hb
        have Hw1 := Lib.hid ((show Below w.heap.size w _ from (by repeat (first | exact Below.refl _ _ | assumption | refine below_drewN ?_ _ | refine Below.drew ?_ | refine Below.setCell ?_ (by first | omega | (simp; done) | (simp; omega)) _ | refine Below.alloc ?_ (by first | omega | (simp; done) | (simp; omega)) _))).trans (hb.mono (by first | omega | (simp; done) | (simp; omega))))
        have hzw1 := hb.size
        try simp at hzw1
        clear hb
        go_wp2_with (go_at_call 59; refine (within_is _ _ _ _ H2.out _).mono ?_; rintro e w' ⟨rfl, rfl⟩)
        refine (Digest_t a A c _ HK.out (HA.out.below Hw1.out) (HR.out.below Hw1.out)).mono ?_
        rintro e w2 ⟨rfl, hb⟩
        obtain ⟨hcw2, hfw2⟩ := bcell hb
        have Hw2 := Lib.hid ((show Below w.heap.size w _ from (by repeat (first | exact Below.refl _ _ | exact (Hw1).out | refine below_drewN ?_ _ | refine Below.drew ?_ | refine Below.setCell ?_ (by first | omega | (simp; done) | (simp; omega)) _ | refine Below.alloc ?_ (by first | omega | (simp; done) | (simp; omega)) _))).trans (hb.mono (by first | omega | (simp; done) | (simp; omega))))
        have hzw2 := hb.size
        try simp at hzw2
        clear hb
        have hz3 : w.heap.size < w1.heap.size := by omega
        go_wp2_with fail
        refine (power_ _ _ _ HD.out.1 (by omega) (by omega) (by omega) (by omega) _).mono ?_
        rintro e w3 ⟨rfl, hb⟩
        obtain ⟨hcw3, hfw3⟩ := bcell hb
        have Hw3 := Lib.hid ((show Below w.heap.size w _ from (by repeat (first | exact Below.refl _ _ | exact (Hw2).out | refine below_drewN ?_ _ | refine Below.drew ?_ | refine Below.setCell ?_ (by first | omega | (simp; done) | (simp; omega)) _ | refine Below.alloc ?_ (by first | omega | (simp; done) | (simp; omega)) _))).trans (hb.mono (by first | omega | (simp; done) | (simp; omega))))
        have hzw3 := hb.size
        try simp at hzw3
        clear hb
        go_wp2_with fail
        go_ret2
        exact ⟨by rw [signE_ok H1.out H2.out HK.out]; rfl, Hw3.out⟩
      · have hk' : okA a = false := by simpa using hk
        have HK := Lib.hid hk'
        clear h1 h2 hk hk'
        go_enter Tryd.func25, Tryd.ntmps25
        go_wp2_with fail
        refine (plausible_is _ _ _ H1.out _).mono ?_
        rintro e w1 ⟨rfl, hb⟩
        obtain ⟨hcw1, hfw1⟩ := bcell hb
        have Hw1 := Lib.hid ((show Below w.heap.size w _ from (by repeat (first | exact Below.refl _ _ | assumption | refine below_drewN ?_ _ | refine Below.drew ?_ | refine Below.setCell ?_ (by first | omega | (simp; done) | (simp; omega)) _ | refine Below.alloc ?_ (by first | omega | (simp; done) | (simp; omega)) _))).trans (hb.mono (by first | omega | (simp; done) | (simp; omega))))
        have hzw1 := hb.size
        try simp at hzw1
        clear hb
        go_wp2_with (go_at_call 59; refine (within_is _ _ _ _ H2.out _).mono ?_; rintro e w' ⟨rfl, rfl⟩)
        refine (Digest_f a A c _ HK.out (HA.out.below Hw1.out) (HR.out.below Hw1.out)).mono ?_
        rintro e w2 ⟨rfl, hb⟩
        obtain ⟨hcw2, hfw2⟩ := bcell hb
        have Hw2 := Lib.hid ((show Below w.heap.size w _ from (by repeat (first | exact Below.refl _ _ | exact (Hw1).out | refine below_drewN ?_ _ | refine Below.drew ?_ | refine Below.setCell ?_ (by first | omega | (simp; done) | (simp; omega)) _ | refine Below.alloc ?_ (by first | omega | (simp; done) | (simp; omega)) _))).trans (hb.mono (by first | omega | (simp; done) | (simp; omega))))
        have hzw2 := hb.size
        try simp at hzw2
        clear hb
        go_wp2_with fail
        go_ret2
        exact ⟨by rw [signE_bad H1.out H2.out HK.out]; rfl, Hw2.out⟩
    · have h2' : inB s 1 1073741824 = false := by simpa using h2
      have H2 := Lib.hid h2'
      clear h1 h2 h2'
      go_enter Tryd.func25, Tryd.ntmps25
      go_wp2_with fail
      refine (plausible_is _ _ _ H1.out _).mono ?_
      rintro e w1 ⟨rfl, hb⟩
      obtain ⟨hcw1, hfw1⟩ := bcell hb
      have Hw1 := Lib.hid ((show Below w.heap.size w _ from (by repeat (first | exact Below.refl _ _ | assumption | refine below_drewN ?_ _ | refine Below.drew ?_ | refine Below.setCell ?_ (by first | omega | (simp; done) | (simp; omega)) _ | refine Below.alloc ?_ (by first | omega | (simp; done) | (simp; omega)) _))).trans (hb.mono (by first | omega | (simp; done) | (simp; omega))))
      have hzw1 := hb.size
      try simp at hzw1
      clear hb
      go_wp2_with (go_at_call 59; refine (within_is _ _ _ _ H2.out _).mono ?_; rintro e w' ⟨rfl, rfl⟩)
      go_ret2
      exact ⟨by rw [signE_no (.inr H2.out)]; rfl, Hw1.out⟩
  · have h1' : plaus m x = false := by simpa using h1
    have H1 := Lib.hid h1'
    clear h1 h1'
    go_enter Tryd.func25, Tryd.ntmps25
    go_wp2_with fail
    refine (plausible_is _ _ _ H1.out _).mono ?_
    rintro e w1 ⟨rfl, hb⟩
    obtain ⟨hcw1, hfw1⟩ := bcell hb
    have Hw1 := Lib.hid ((show Below w.heap.size w _ from (by repeat (first | exact Below.refl _ _ | assumption | refine below_drewN ?_ _ | refine Below.drew ?_ | refine Below.setCell ?_ (by first | omega | (simp; done) | (simp; omega)) _ | refine Below.alloc ?_ (by first | omega | (simp; done) | (simp; omega)) _))).trans (hb.mono (by first | omega | (simp; done) | (simp; omega))))
    have hzw1 := hb.size
    try simp at hzw1
    clear hb
    go_wp2_with fail
    go_ret2
    exact ⟨by rw [signE_no (.inl H1.out)]; rfl, Hw1.out⟩
end Go.Proofs.YtohfofecbdfkgaaDoor
