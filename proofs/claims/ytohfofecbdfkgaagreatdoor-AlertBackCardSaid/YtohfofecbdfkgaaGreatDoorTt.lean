/-
  The walks of CheckAlert, of Print where it refuses, and of the specification's Print and Digest; Parse for every text.
-/
import Derived.Test.YtohfofecbdfkgaaGreatDoorPl3
import Derived.Test.YtohfofecbdfkgaaGreatDoorPw
import Derived.Test.YtohfofecbdfkgaaGreatDoorRq
import Derived.Test.YtohfofecbdfkgaaGreatDoorU12
import Derived.Test.YtohfofecbdfkgaaGreatDoorU19
import Derived.Test.YtohfofecbdfkgaaGreatDoorSq
namespace Go.Proofs.YtohfofecbdfkgaaGreatDoor
open Go.RowKit Al
theorem CheckAlert_t (a : Alr) (A : Option Addr) (c : Nat) (w : World) (hk : okA a = true) (h : AIn w a A c) : Calls Tryz.prog 32 #[a.val A c] w fun e w' => e = .returned (.int .i64 0) ∧ Below w.heap.size w w' := by
  have HS := Lib.hid h
  have HK := Lib.hid hk
  clear h hk
  go_enter Tryz.func32, Tryz.ntmps32
  go_wp2_with fail
  refine (validA_is a A c _ true HK.out (HS.out.below (by (repeat (first | exact Below.refl _ _ | assumption | refine below_drewN ?_ _ | refine Below.drew ?_ | refine Below.setCell ?_ (by first | omega | (simp; done) | (simp; omega)) _ | refine Below.alloc ?_ (by first | omega | (simp; done) | (simp; omega)) _))))).mono ?_
  rintro e w1 ⟨rfl, hb⟩
  obtain ⟨hcw1, hfw1⟩ := bcell hb
  have Hw1 := Lib.hid ((show Below w.heap.size w _ from (by repeat (first | exact Below.refl _ _ | assumption | refine below_drewN ?_ _ | refine Below.drew ?_ | refine Below.setCell ?_ (by first | omega | (simp; done) | (simp; omega)) _ | refine Below.alloc ?_ (by first | omega | (simp; done) | (simp; omega)) _))).trans (hb.mono (by first | omega | (simp; done) | (simp; omega))))
  have hzw1 := hb.size
  try simp at hzw1
  clear hb
  go_wp2_with fail
  go_ret
  exact ⟨rfl, Hw1.out⟩
theorem CheckAlert_f (a : Alr) (A : Option Addr) (c : Nat) (w : World) (hk : okA a = false) (h : AIn w a A c) : Calls Tryz.prog 32 #[a.val A c] w fun e w' => e = .returned (.int .i64 101) ∧ Below w.heap.size w w' := by
  have HS := Lib.hid h
  have HK := Lib.hid hk
  clear h hk
  go_enter Tryz.func32, Tryz.ntmps32
  go_wp2_with fail
  refine (validA_is a A c _ false HK.out (HS.out.below (by (repeat (first | exact Below.refl _ _ | assumption | refine below_drewN ?_ _ | refine Below.drew ?_ | refine Below.setCell ?_ (by first | omega | (simp; done) | (simp; omega)) _ | refine Below.alloc ?_ (by first | omega | (simp; done) | (simp; omega)) _))))).mono ?_
  rintro e w1 ⟨rfl, hb⟩
  obtain ⟨hcw1, hfw1⟩ := bcell hb
  have Hw1 := Lib.hid ((show Below w.heap.size w _ from (by repeat (first | exact Below.refl _ _ | assumption | refine below_drewN ?_ _ | refine Below.drew ?_ | refine Below.setCell ?_ (by first | omega | (simp; done) | (simp; omega)) _ | refine Below.alloc ?_ (by first | omega | (simp; done) | (simp; omega)) _))).trans (hb.mono (by first | omega | (simp; done) | (simp; omega))))
  have hzw1 := hb.size
  try simp at hzw1
  clear hb
  go_wp2_with fail
  go_ret
  exact ⟨rfl, Hw1.out⟩
theorem CheckAlert_is (a : Alr) (A : Option Addr) (c : Nat) (w : World) (k : Int) (hk : errA (okA a) 101 = k) (h : AIn w a A c) : Calls Tryz.prog 32 #[a.val A c] w fun e w' => e = .returned (.int .i64 k) ∧ Below w.heap.size w w' := by
  subst hk
  cases ho : okA a with
  | true => exact CheckAlert_t a A c w ho h
  | false => exact CheckAlert_f a A c w ho h
theorem Print_f (a : Alr) (A : Option Addr) (c : Nat) (w : World) (hk : okA a = false) (h : AIn w a A c) :
    Calls Tryz.prog 36 #[a.val A c] w fun e w' => e = .returned (.tuple #[.string ⟨#[]⟩, .int .i64 101]) ∧ Below w.heap.size w w' := by
  have HS := Lib.hid h
  have HK := Lib.hid hk
  clear h hk
  go_enter Tryz.func36, Tryz.ntmps36
  go_wp2_with fail
  refine (validA_is a A c _ false HK.out (HS.out.below (by (repeat (first | exact Below.refl _ _ | assumption | refine below_drewN ?_ _ | refine Below.drew ?_ | refine Below.setCell ?_ (by first | omega | (simp; done) | (simp; omega)) _ | refine Below.alloc ?_ (by first | omega | (simp; done) | (simp; omega)) _))))).mono ?_
  rintro e w1 ⟨rfl, hb⟩
  obtain ⟨hcw1, hfw1⟩ := bcell hb
  have Hw1 := Lib.hid ((show Below w.heap.size w _ from (by repeat (first | exact Below.refl _ _ | assumption | refine below_drewN ?_ _ | refine Below.drew ?_ | refine Below.setCell ?_ (by first | omega | (simp; done) | (simp; omega)) _ | refine Below.alloc ?_ (by first | omega | (simp; done) | (simp; omega)) _))).trans (hb.mono (by first | omega | (simp; done) | (simp; omega))))
  have hzw1 := hb.size
  try simp at hzw1
  clear hb
  go_wp2_with fail
  go_ret2
  exact ⟨rfl, Hw1.out⟩
/-- What Print gives: the text and the error. -/
def printR (a : Alr) : ByteArray × Int := if okA a then (⟨(textL a).toArray⟩, 0) else (⟨#[]⟩, 101)
theorem Print_v (a : Alr) (A : Option Addr) (c : Nat) (w : World) (t : ByteArray) (k : Int) (hk : printR a = (t, k)) (h : AIn w a A c) (hr : Rdy w) :
    Calls Tryz.prog 36 #[a.val A c] w fun e w' => e = .returned (.tuple #[.string t, .int .i64 k]) ∧ Below w.heap.size w w' := by
  unfold printR at hk
  cases ho : okA a with
  | true => rw [ho] at hk; cases hk; exact Print_t a A c w ho h hr
  | false => rw [ho] at hk; cases hk; exact Print_f a A c w ho h
theorem rPrint_t (a : Alr) (A : Option Addr) (c : Nat) (w : World) (hk : okA a = true) (h : AIn w a A c) :
    Calls Tryz.prog 37 #[a.val A c] w fun e w' => e = .returned (.tuple #[.string ⟨(textL a).toArray⟩, .int .i64 0]) ∧ Below w.heap.size w w' := by
  have HS := Lib.hid h
  have HK := Lib.hid hk
  clear h hk
  go_enter Tryz.func37, Tryz.ntmps37
  go_wp2_with fail
  refine (rcheckA_is a A c _ 0 (errA_t HK.out) (HS.out.below (by (repeat (first | exact Below.refl _ _ | assumption | refine below_drewN ?_ _ | refine Below.drew ?_ | refine Below.setCell ?_ (by first | omega | (simp; done) | (simp; omega)) _ | refine Below.alloc ?_ (by first | omega | (simp; done) | (simp; omega)) _))))).mono ?_
  rintro e w1 ⟨rfl, hb⟩
  obtain ⟨hcw1, hfw1⟩ := bcell hb
  have Hw1 := Lib.hid ((show Below w.heap.size w _ from (by repeat (first | exact Below.refl _ _ | assumption | refine below_drewN ?_ _ | refine Below.drew ?_ | refine Below.setCell ?_ (by first | omega | (simp; done) | (simp; omega)) _ | refine Below.alloc ?_ (by first | omega | (simp; done) | (simp; omega)) _))).trans (hb.mono (by first | omega | (simp; done) | (simp; omega))))
  have hzw1 := hb.size
  try simp at hzw1
  clear hb
  have hz4 : w.heap.size < w1.heap.size := by omega
  go_wp2_with fail
  refine (rtext_ a A c w1.heap.size _ (okA_good HK.out) (HS.out.below Hw1.out).sl (Nat.le_refl _)).mono ?_
  rintro e w2 ⟨rfl, hb⟩
  obtain ⟨hcw2, hfw2⟩ := bcell hb
  have Hw2 := Lib.hid ((show Below w.heap.size w _ from (by repeat (first | exact Below.refl _ _ | exact (Hw1).out | refine below_drewN ?_ _ | refine Below.drew ?_ | refine Below.setCell ?_ (by first | omega | (simp; done) | (simp; omega)) _ | refine Below.alloc ?_ (by first | omega | (simp; done) | (simp; omega)) _))).trans (hb.mono (by first | omega | (simp; done) | (simp; omega))))
  have hzw2 := hb.size
  try simp at hzw2
  clear hb
  go_wp2_with fail
  go_ret2
  exact ⟨rfl, Hw2.out⟩
theorem rPrint_f (a : Alr) (A : Option Addr) (c : Nat) (w : World) (hk : okA a = false) (h : AIn w a A c) :
    Calls Tryz.prog 37 #[a.val A c] w fun e w' => e = .returned (.tuple #[.string ⟨#[]⟩, .int .i64 101]) ∧ Below w.heap.size w w' := by
  have HS := Lib.hid h
  have HK := Lib.hid hk
  clear h hk
  go_enter Tryz.func37, Tryz.ntmps37
  go_wp2_with fail
  refine (rcheckA_is a A c _ 101 (errA_f HK.out) (HS.out.below (by (repeat (first | exact Below.refl _ _ | assumption | refine below_drewN ?_ _ | refine Below.drew ?_ | refine Below.setCell ?_ (by first | omega | (simp; done) | (simp; omega)) _ | refine Below.alloc ?_ (by first | omega | (simp; done) | (simp; omega)) _))))).mono ?_
  rintro e w1 ⟨rfl, hb⟩
  obtain ⟨hcw1, hfw1⟩ := bcell hb
  have Hw1 := Lib.hid ((show Below w.heap.size w _ from (by repeat (first | exact Below.refl _ _ | assumption | refine below_drewN ?_ _ | refine Below.drew ?_ | refine Below.setCell ?_ (by first | omega | (simp; done) | (simp; omega)) _ | refine Below.alloc ?_ (by first | omega | (simp; done) | (simp; omega)) _))).trans (hb.mono (by first | omega | (simp; done) | (simp; omega))))
  have hzw1 := hb.size
  try simp at hzw1
  clear hb
  go_wp2_with fail
  go_ret2
  exact ⟨rfl, Hw1.out⟩
theorem rPrint_v (a : Alr) (A : Option Addr) (c : Nat) (w : World) (t : ByteArray) (k : Int) (hk : printR a = (t, k)) (h : AIn w a A c) :
    Calls Tryz.prog 37 #[a.val A c] w fun e w' => e = .returned (.tuple #[.string t, .int .i64 k]) ∧ Below w.heap.size w w' := by
  unfold printR at hk
  cases ho : okA a with
  | true => rw [ho] at hk; cases hk; exact rPrint_t a A c w ho h
  | false => rw [ho] at hk; cases hk; exact rPrint_f a A c w ho h
theorem rDigest_t (a : Alr) (A : Option Addr) (c : Nat) (w : World) (hk : okA a = true) (h : AIn w a A c) :
    Calls Tryz.prog 40 #[a.val A c] w fun e w' => e = .returned (.tuple #[.int .i64 (digA a), .int .i64 0]) ∧ Below w.heap.size w w' := by
  have HS := Lib.hid h
  have HK := Lib.hid hk
  clear h hk
  go_enter Tryz.func40, Tryz.ntmps40
  go_wp2_with fail
  refine (rcheckA_is a A c _ 0 (errA_t HK.out) (HS.out.below (by (repeat (first | exact Below.refl _ _ | assumption | refine below_drewN ?_ _ | refine Below.drew ?_ | refine Below.setCell ?_ (by first | omega | (simp; done) | (simp; omega)) _ | refine Below.alloc ?_ (by first | omega | (simp; done) | (simp; omega)) _))))).mono ?_
  rintro e w1 ⟨rfl, hb⟩
  obtain ⟨hcw1, hfw1⟩ := bcell hb
  have Hw1 := Lib.hid ((show Below w.heap.size w _ from (by repeat (first | exact Below.refl _ _ | assumption | refine below_drewN ?_ _ | refine Below.drew ?_ | refine Below.setCell ?_ (by first | omega | (simp; done) | (simp; omega)) _ | refine Below.alloc ?_ (by first | omega | (simp; done) | (simp; omega)) _))).trans (hb.mono (by first | omega | (simp; done) | (simp; omega))))
  have hzw1 := hb.size
  try simp at hzw1
  clear hb
  have hz4 : w.heap.size < w1.heap.size := by omega
  go_wp2_with fail
  refine (rdigestA a A c _ HK.out (HS.out.below Hw1.out)).mono ?_
  rintro e w2 ⟨rfl, hb⟩
  obtain ⟨hcw2, hfw2⟩ := bcell hb
  have Hw2 := Lib.hid ((show Below w.heap.size w _ from (by repeat (first | exact Below.refl _ _ | exact (Hw1).out | refine below_drewN ?_ _ | refine Below.drew ?_ | refine Below.setCell ?_ (by first | omega | (simp; done) | (simp; omega)) _ | refine Below.alloc ?_ (by first | omega | (simp; done) | (simp; omega)) _))).trans (hb.mono (by first | omega | (simp; done) | (simp; omega))))
  have hzw2 := hb.size
  try simp at hzw2
  clear hb
  go_wp2_with fail
  go_ret2
  exact ⟨rfl, Hw2.out⟩
theorem rDigest_f (a : Alr) (A : Option Addr) (c : Nat) (w : World) (hk : okA a = false) (h : AIn w a A c) :
    Calls Tryz.prog 40 #[a.val A c] w fun e w' => e = .returned (.tuple #[.int .i64 0, .int .i64 101]) ∧ Below w.heap.size w w' := by
  have HS := Lib.hid h
  have HK := Lib.hid hk
  clear h hk
  go_enter Tryz.func40, Tryz.ntmps40
  go_wp2_with fail
  refine (rcheckA_is a A c _ 101 (errA_f HK.out) (HS.out.below (by (repeat (first | exact Below.refl _ _ | assumption | refine below_drewN ?_ _ | refine Below.drew ?_ | refine Below.setCell ?_ (by first | omega | (simp; done) | (simp; omega)) _ | refine Below.alloc ?_ (by first | omega | (simp; done) | (simp; omega)) _))))).mono ?_
  rintro e w1 ⟨rfl, hb⟩
  obtain ⟨hcw1, hfw1⟩ := bcell hb
  have Hw1 := Lib.hid ((show Below w.heap.size w _ from (by repeat (first | exact Below.refl _ _ | assumption | refine below_drewN ?_ _ | refine Below.drew ?_ | refine Below.setCell ?_ (by first | omega | (simp; done) | (simp; omega)) _ | refine Below.alloc ?_ (by first | omega | (simp; done) | (simp; omega)) _))).trans (hb.mono (by first | omega | (simp; done) | (simp; omega))))
  have hzw1 := hb.size
  try simp at hzw1
  clear hb
  go_wp2_with fail
  go_ret2
  exact ⟨rfl, Hw1.out⟩
theorem rDigest_v (a : Alr) (A : Option Addr) (c : Nat) (w : World) (d k : Int) (hd : digE a = d) (hk : errA (okA a) 101 = k) (h : AIn w a A c) :
    Calls Tryz.prog 40 #[a.val A c] w fun e w' => e = .returned (.tuple #[.int .i64 d, .int .i64 k]) ∧ Below w.heap.size w w' := by
  subst hd hk
  cases ho : okA a with
  | true => rw [digE_t ho]; exact rDigest_t a A c w ho h
  | false => rw [digE_f ho]; exact rDigest_f a A c w ho h
theorem Digest_v (a : Alr) (A : Option Addr) (c : Nat) (w : World) (d k : Int) (hd : digE a = d) (hk : errA (okA a) 101 = k) (h : AIn w a A c) (hr : Rdy w) :
    Calls Tryz.prog 30 #[a.val A c] w fun e w' => e = .returned (.tuple #[.int .i64 d, .int .i64 k]) ∧ Below w.heap.size w w' := by
  subst hd hk
  exact Digest_ a A c w h hr
/-- Parse, of every text, on both sides. -/
theorem Parse_v (s : ByteArray) (w : World) (x : Alr) (k : Int) (hv : parseR parseB s.data.toList = (x, k)) (hm : s.size ≤ maxLen) (hr : RdyP w) : Calls Tryz.prog 38 #[.string s] w (OwnT w.heap.size x k w) := by
  have hv2 := (parse_same s.data.toList).trans hv
  by_cases hs : s.size ≤ 65536
  · have := Parse_t s w hs hr
    rw [hv2] at this
    exact this
  · have := Parse_long s w (by omega) hm
    rw [hv2] at this
    exact this
theorem rParse_v (s : ByteArray) (w : World) (x : Alr) (k : Int) (hv : parseR parseB s.data.toList = (x, k)) (hm : s.size ≤ maxLen) : Calls Tryz.prog 39 #[.string s] w (OwnT w.heap.size x k w) := by
  by_cases hs : s.size ≤ 65536
  · have := rParse_t s w hs
    rw [hv] at this
    exact this
  · have := rParse_long s w (by omega) hm
    rw [hv] at this
    exact this
theorem parse_ev {s : ByteArray} {x : Alr} {k : Int} (hv : parseR parseB s.data.toList = (x, k)) : x.ev.size ≤ maxLen := by
  unfold parseR at hv
  split at hv
  · cases hv; decide
  · split at hv
    · cases hv
      rename_i hs _
      refine Nat.le_trans (wordB_short s.data.toList 0 1) ?_
      unfold maxLen
      omega
    · cases hv; decide
end Go.Proofs.YtohfofecbdfkgaaGreatDoor
