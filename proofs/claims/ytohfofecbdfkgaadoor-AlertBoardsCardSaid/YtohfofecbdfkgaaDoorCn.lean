/-
  The walks of CheckRoll and CheckNotice, of the program.
-/
import Derived.Test.YtohfofecbdfkgaaDoorNo
namespace Go.Proofs.YtohfofecbdfkgaaDoor
open Go.RowKit Al

theorem rollValid_is (ks : List (Int × Int)) (q : Int) (A : Option Addr) (c : Nat) (w : World) (b : Bool) (hb : rollOk ks q = b) (h : Rin w ks A c) :
    Calls Tryd.prog 43 #[rollV ks A c q] w fun e w' => e = .returned (.bool b) ∧ Below w.heap.size w w' := hb ▸ rollValid_ ks q A c w h

set_option maxRecDepth 100000 in
theorem CheckRoll_ (ks : List (Int × Int)) (q : Int) (A : Option Addr) (c : Nat) (w : World) (h : Rin w ks A c) :
    Calls Tryd.prog 9 #[rollV ks A c q] w fun e w' => e = .returned (.int .i64 (errA (rollOk ks q) 104)) ∧ Below w.heap.size w w' := by
  have HR := Lib.hid h
  clear h
  by_cases ho : rollOk ks q = true
  · have HO := Lib.hid ho
    clear ho
    go_enter Tryd.func9, Tryd.ntmps9
    go_wp2_with fail
    refine (rollValid_is ks q A c _ true HO.out (HR.out.below (by (repeat (first | exact Below.refl _ _ | assumption | refine below_drewN ?_ _ | refine Below.drew ?_ | refine Below.setCell ?_ (by first | omega | (simp; done) | (simp; omega)) _ | refine Below.alloc ?_ (by first | omega | (simp; done) | (simp; omega)) _))))).mono ?_
    rintro e w1 ⟨rfl, hb⟩
    obtain ⟨hcw1, hfw1⟩ := bcell hb
    have Hw1 := Lib.hid ((show Below w.heap.size w _ from (by repeat (first | exact Below.refl _ _ | assumption | refine below_drewN ?_ _ | refine Below.drew ?_ | refine Below.setCell ?_ (by first | omega | (simp; done) | (simp; omega)) _ | refine Below.alloc ?_ (by first | omega | (simp; done) | (simp; omega)) _))).trans (hb.mono (by first | omega | (simp; done) | (simp; omega))))
    have hzw1 := hb.size
    try simp at hzw1
    clear hb
    go_wp2_with fail
    go_ret
    exact ⟨ret_int (errA_t HO.out).symm, Hw1.out⟩
  · have ho' : rollOk ks q = false := by simpa using ho
    have HO := Lib.hid ho'
    clear ho ho'
    go_enter Tryd.func9, Tryd.ntmps9
    go_wp2_with fail
    refine (rollValid_is ks q A c _ false HO.out (HR.out.below (by (repeat (first | exact Below.refl _ _ | assumption | refine below_drewN ?_ _ | refine Below.drew ?_ | refine Below.setCell ?_ (by first | omega | (simp; done) | (simp; omega)) _ | refine Below.alloc ?_ (by first | omega | (simp; done) | (simp; omega)) _))))).mono ?_
    rintro e w1 ⟨rfl, hb⟩
    obtain ⟨hcw1, hfw1⟩ := bcell hb
    have Hw1 := Lib.hid ((show Below w.heap.size w _ from (by repeat (first | exact Below.refl _ _ | assumption | refine below_drewN ?_ _ | refine Below.drew ?_ | refine Below.setCell ?_ (by first | omega | (simp; done) | (simp; omega)) _ | refine Below.alloc ?_ (by first | omega | (simp; done) | (simp; omega)) _))).trans (hb.mono (by first | omega | (simp; done) | (simp; omega))))
    have hzw1 := hb.size
    try simp at hzw1
    clear hb
    go_wp2_with fail
    go_ret
    exact ⟨ret_int (errA_f HO.out).symm, Hw1.out⟩
theorem CheckRoll_is (ks : List (Int × Int)) (q : Int) (A : Option Addr) (c : Nat) (w : World) (v : Int) (hv : errA (rollOk ks q) 104 = v) (h : Rin w ks A c) :
    Calls Tryd.prog 9 #[rollV ks A c q] w fun e w' => e = .returned (.int .i64 v) ∧ Below w.heap.size w w' := hv ▸ CheckRoll_ ks q A c w h

/-- What CheckNotice gives. -/
def checkE (ks : List (Int × Int)) (q : Int) (n : Ntc) : Int := if rollOk ks q then noticeE ks q n else 104
theorem checkE_t {ks : List (Int × Int)} {q : Int} {n : Ntc} (h : rollOk ks q = true) : checkE ks q n = noticeE ks q n := by unfold checkE; rw [h]; rfl
theorem checkE_f {ks : List (Int × Int)} {q : Int} {n : Ntc} (h : rollOk ks q = false) : checkE ks q n = 104 := by unfold checkE; rw [h]; rfl

set_option maxRecDepth 100000 in
set_option maxHeartbeats 1000000 in
theorem CheckNotice_ (ks : List (Int × Int)) (q : Int) (K : Option Addr) (kc : Nat) (n : Ntc) (A : Option Addr) (c : Nat) (S : Option Addr) (sc : Nat) (w : World) (hr : Rin w ks K kc) (hn : NIn w n A c S sc) (ht : Rdy w) :
    Calls Tryd.prog 11 #[rollV ks K kc q, n.val A c S sc] w fun e w' => e = .returned (.int .i64 (checkE ks q n)) ∧ Below w.heap.size w w' := by
  have HR := Lib.hid hr
  have HN := Lib.hid hn
  have HT := Lib.hid ht
  clear hr hn ht
  by_cases ho : rollOk ks q = true
  · have HO := Lib.hid ho
    clear ho
    go_enter Tryd.func11, Tryd.ntmps11
    go_wp2_with fail
    refine (CheckRoll_is ks q K kc _ 0 (errA_t HO.out) (HR.out.below (by (repeat (first | exact Below.refl _ _ | assumption | refine below_drewN ?_ _ | refine Below.drew ?_ | refine Below.setCell ?_ (by first | omega | (simp; done) | (simp; omega)) _ | refine Below.alloc ?_ (by first | omega | (simp; done) | (simp; omega)) _))))).mono ?_
    rintro e w1 ⟨rfl, hb⟩
    obtain ⟨hcw1, hfw1⟩ := bcell hb
    have Hw1 := Lib.hid ((show Below w.heap.size w _ from (by repeat (first | exact Below.refl _ _ | assumption | refine below_drewN ?_ _ | refine Below.drew ?_ | refine Below.setCell ?_ (by first | omega | (simp; done) | (simp; omega)) _ | refine Below.alloc ?_ (by first | omega | (simp; done) | (simp; omega)) _))).trans (hb.mono (by first | omega | (simp; done) | (simp; omega))))
    have hzw1 := hb.size
    try simp at hzw1
    clear hb
    have hz3 : w.heap.size + 1 < w1.heap.size := by omega
    have hz4 : w.heap.size < w1.heap.size := by omega
    go_wp2_with fail
    refine (rollCheck_ ks q K kc n A c S sc _ (HR.out.below Hw1.out) HO.out (HN.out.below Hw1.out) (HT.out.below Hw1.out)).mono ?_
    rintro e w2 ⟨rfl, hb⟩
    obtain ⟨hcw2, hfw2⟩ := bcell hb
    have Hw2 := Lib.hid ((show Below w.heap.size w _ from (by repeat (first | exact Below.refl _ _ | exact (Hw1).out | refine below_drewN ?_ _ | refine Below.drew ?_ | refine Below.setCell ?_ (by first | omega | (simp; done) | (simp; omega)) _ | refine Below.alloc ?_ (by first | omega | (simp; done) | (simp; omega)) _))).trans (hb.mono (by first | omega | (simp; done) | (simp; omega))))
    have hzw2 := hb.size
    try simp at hzw2
    clear hb
    go_wp2_with fail
    go_ret
    exact ⟨ret_int (checkE_t HO.out).symm, Hw2.out⟩
  · have ho' : rollOk ks q = false := by simpa using ho
    have HO := Lib.hid ho'
    clear ho ho'
    go_enter Tryd.func11, Tryd.ntmps11
    go_wp2_with fail
    refine (CheckRoll_is ks q K kc _ 104 (errA_f HO.out) (HR.out.below (by (repeat (first | exact Below.refl _ _ | assumption | refine below_drewN ?_ _ | refine Below.drew ?_ | refine Below.setCell ?_ (by first | omega | (simp; done) | (simp; omega)) _ | refine Below.alloc ?_ (by first | omega | (simp; done) | (simp; omega)) _))))).mono ?_
    rintro e w1 ⟨rfl, hb⟩
    obtain ⟨hcw1, hfw1⟩ := bcell hb
    have Hw1 := Lib.hid ((show Below w.heap.size w _ from (by repeat (first | exact Below.refl _ _ | assumption | refine below_drewN ?_ _ | refine Below.drew ?_ | refine Below.setCell ?_ (by first | omega | (simp; done) | (simp; omega)) _ | refine Below.alloc ?_ (by first | omega | (simp; done) | (simp; omega)) _))).trans (hb.mono (by first | omega | (simp; done) | (simp; omega))))
    have hzw1 := hb.size
    try simp at hzw1
    clear hb
    have hz3 : w.heap.size + 1 < w1.heap.size := by omega
    have hz4 : w.heap.size < w1.heap.size := by omega
    go_wp2_with fail
    go_ret
    exact ⟨ret_int (checkE_f HO.out).symm, Hw1.out⟩
end Go.Proofs.YtohfofecbdfkgaaDoor
