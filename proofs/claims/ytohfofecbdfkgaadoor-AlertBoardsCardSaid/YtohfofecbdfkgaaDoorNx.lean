/-
  The walk of next, of the program.
-/
import Derived.Test.YtohfofecbdfkgaaDoorQt
namespace Go.Proofs.YtohfofecbdfkgaaDoor
open Go.RowKit Al

/-- The error of a next version. -/
def nextE (a : Alr) (t : Int) : Int := if okA a then (if a.wd then 107 else (if t < a.tm then 108 else 0)) else 101
/-- The next version, as far as it is known. -/
def nextA (a : Alr) (t : Int) : Alr := ⟨a.ev, a.ver + 1, t, a.n, a.of, a.grid, [], false, digA a⟩
theorem nextE_101 {a : Alr} {t : Int} (h : okA a = false) : nextE a t = 101 := by unfold nextE; rw [h]; rfl
theorem nextE_107 {a : Alr} {t : Int} (h : okA a = true) (h1 : a.wd = true) : nextE a t = 107 := by unfold nextE; rw [h, h1]; rfl
theorem nextE_108 {a : Alr} {t : Int} (h : okA a = true) (h1 : a.wd = false) (h2 : t < a.tm) : nextE a t = 108 := by unfold nextE; rw [h, h1, if_pos h2]; rfl
theorem nextE_0 {a : Alr} {t : Int} (h : okA a = true) (h1 : a.wd = false) (h2 : ¬ t < a.tm) : nextE a t = 0 := by unfold nextE; rw [h, h1, if_neg h2]; rfl
/-- What next returns. -/
def NextT (b : Alr) (k : Int) (w : World) (e : Ending) (w' : World) : Prop := e = .returned (.tuple #[b.val none 0, .int .i64 k]) ∧ Below w.heap.size w w'

set_option maxRecDepth 100000 in
set_option maxHeartbeats 8000000 in
theorem next_t (ev : ByteArray) (ver tm cn co grid before : Int) (cells : List Int) (A : Option Addr) (c : Nat) (t : Int) (w : World) (hk : okA ⟨ev, ver, tm, cn, co, grid, cells, false, before⟩ = true) (ht : ¬ t < tm) (h : AIn w ⟨ev, ver, tm, cn, co, grid, cells, false, before⟩ A c) (hr : Rdy w) :
    Calls Tryd.prog 55 #[(⟨ev, ver, tm, cn, co, grid, cells, false, before⟩ : Alr).val A c, .int .i64 t] w (NextT (nextA ⟨ev, ver, tm, cn, co, grid, cells, false, before⟩ t) 0 w) := by
  have HS := Lib.hid h
  have HK := Lib.hid hk
  have HR := Lib.hid hr
  have hg : 0 ≤ ver ∧ ver ≤ 2147483647 := (okA_good hk).ver
  have ht' : decide (t < tm) = false := decide_eq_false ht
  clear h hk hr
  go_enter Tryd.func55, Tryd.ntmps55
  go_wp2_with fail
  refine (validA_is ⟨ev, ver, tm, cn, co, grid, cells, false, before⟩ A c _ true HK.out (HS.out.below (by (repeat (first | exact Below.refl _ _ | assumption | refine below_drewN ?_ _ | refine Below.drew ?_ | refine Below.setCell ?_ (by first | omega | (simp; done) | (simp; omega)) _ | refine Below.alloc ?_ (by first | omega | (simp; done) | (simp; omega)) _))))).mono ?_
  rintro e w1 ⟨rfl, hb⟩
  obtain ⟨hcw1, hfw1⟩ := bcell hb
  have Hw1 := Lib.hid ((show Below w.heap.size w _ from (by repeat (first | exact Below.refl _ _ | assumption | refine below_drewN ?_ _ | refine Below.drew ?_ | refine Below.setCell ?_ (by first | omega | (simp; done) | (simp; omega)) _ | refine Below.alloc ?_ (by first | omega | (simp; done) | (simp; omega)) _))).trans (hb.mono (by first | omega | (simp; done) | (simp; omega))))
  have hzw1 := hb.size
  try simp at hzw1
  clear hb
  have hz3 : w.heap.size + 1 < w1.heap.size := by omega
  have hz4 : w.heap.size < w1.heap.size := by omega
  go_wp2_with fail
  refine wp_region_bwt 13 (by kernel_rfl) (by kernel_rfl) (fun hbwc => ?_)
  simp only [List.take_succ_cons, List.take_zero, List.drop_succ_cons, List.drop_zero]
  repeat (go_big_quiet_step ((go_at_call 74; exact bwCall (digestA ⟨ev, ver, tm, cn, co, grid, cells, false, before⟩ A c _ HK.out (AIn.below (HS.out.below Hw1.out) (BW.below _)) (Rdy.below (HR.out.below Hw1.out) (BW.below _))))))
  refine wpQuiet_nil ?_
  clear hbwc
  intro w3 hb
  obtain ⟨hcw3, hfw3⟩ := bcell hb
  have Hw3 := Lib.hid (Hw1.out.trans (hb.mono Hw1.out.size))
  have hz5 := hb.size
  clear hb
  have hz6 : w.heap.size + 1 < w3.heap.size := by omega
  go_wp2_with fail
  refine finCells (w := w3) (w.heap.size + 1) ((nextA ⟨ev, ver, tm, cn, co, grid, cells, false, before⟩ t).lst none 0) (.tuple #[(nextA ⟨ev, ver, tm, cn, co, grid, cells, false, before⟩ t).val none 0, .int .i64 0]) rfl ?_ ?_ (show NextT (nextA ⟨ev, ver, tm, cn, co, grid, cells, false, before⟩ t) 0 w _ _ from ⟨rfl, ?_⟩)
  · intro W hW
    have r0 := hW 0 (by simp)
    have r1 := hW 1 (by simp)
    have r2 := hW 2 (by simp)
    have r3 := hW 3 (by simp)
    have r4 := hW 4 (by simp)
    have r5 := hW 5 (by simp)
    have r6 := hW 6 (by simp)
    have r7 := hW 7 (by simp)
    have r8 := hW 8 (by simp)
    clear hW
    simp only [List.getElem_cons_zero, List.getElem_cons_succ] at r0 r1 r2 r3 r4 r5 r6 r7 r8
    simp [results, Tryd.results55, go_sem, r0, r1, r2, r3, r4, r5, r6, r7, r8]
  · refine lt9 ?_
    simp [go_sem, hcw1, hcw3, hz3]
  · exact below_setCells (by omega) _ _ _ _ Hw3.out

set_option maxRecDepth 100000 in
set_option maxHeartbeats 1000000 in
theorem next_101 (ev : ByteArray) (ver tm cn co grid before : Int) (cells : List Int) (wd : Bool) (A : Option Addr) (c : Nat) (t : Int) (w : World) (hk : okA ⟨ev, ver, tm, cn, co, grid, cells, wd, before⟩ = false) (h : AIn w ⟨ev, ver, tm, cn, co, grid, cells, wd, before⟩ A c) :
    Calls Tryd.prog 55 #[(⟨ev, ver, tm, cn, co, grid, cells, wd, before⟩ : Alr).val A c, .int .i64 t] w (NextT Al.zero 101 w) := by
  have HS := Lib.hid h
  have HK := Lib.hid hk
  clear h hk
  go_enter Tryd.func55, Tryd.ntmps55
  go_wp2_with fail
  refine (validA_is ⟨ev, ver, tm, cn, co, grid, cells, wd, before⟩ A c _ false HK.out (HS.out.below (by (repeat (first | exact Below.refl _ _ | assumption | refine below_drewN ?_ _ | refine Below.drew ?_ | refine Below.setCell ?_ (by first | omega | (simp; done) | (simp; omega)) _ | refine Below.alloc ?_ (by first | omega | (simp; done) | (simp; omega)) _))))).mono ?_
  rintro e w1 ⟨rfl, hb⟩
  obtain ⟨hcw1, hfw1⟩ := bcell hb
  have Hw1 := Lib.hid ((show Below w.heap.size w _ from (by repeat (first | exact Below.refl _ _ | assumption | refine below_drewN ?_ _ | refine Below.drew ?_ | refine Below.setCell ?_ (by first | omega | (simp; done) | (simp; omega)) _ | refine Below.alloc ?_ (by first | omega | (simp; done) | (simp; omega)) _))).trans (hb.mono (by first | omega | (simp; done) | (simp; omega))))
  have hzw1 := hb.size
  try simp at hzw1
  clear hb
  have hz3 : w.heap.size + 1 < w1.heap.size := by omega
  have hz4 : w.heap.size < w1.heap.size := by omega
  go_wp2_with fail
  refine finCells (w := w1) (w.heap.size + 1) (Al.zero.lst none 0) (.tuple #[Al.zero.val none 0, .int .i64 101]) rfl ?_ ?_ (show NextT Al.zero 101 w _ _ from ⟨rfl, ?_⟩)
  · intro W hW
    have r0 := hW 0 (by simp)
    have r1 := hW 1 (by simp)
    have r2 := hW 2 (by simp)
    have r3 := hW 3 (by simp)
    have r4 := hW 4 (by simp)
    have r5 := hW 5 (by simp)
    have r6 := hW 6 (by simp)
    have r7 := hW 7 (by simp)
    have r8 := hW 8 (by simp)
    clear hW
    simp only [List.getElem_cons_zero, List.getElem_cons_succ] at r0 r1 r2 r3 r4 r5 r6 r7 r8
    simp [results, Tryd.results55, go_sem, r0, r1, r2, r3, r4, r5, r6, r7, r8]
  · refine lt9 ?_
    simp [go_sem, hcw1]
  · exact below_setCells (by omega) _ _ _ _ Hw1.out

set_option maxRecDepth 100000 in
set_option maxHeartbeats 1000000 in
theorem next_107 (ev : ByteArray) (ver tm cn co grid before : Int) (cells : List Int) (A : Option Addr) (c : Nat) (t : Int) (w : World) (hk : okA ⟨ev, ver, tm, cn, co, grid, cells, true, before⟩ = true) (h : AIn w ⟨ev, ver, tm, cn, co, grid, cells, true, before⟩ A c) :
    Calls Tryd.prog 55 #[(⟨ev, ver, tm, cn, co, grid, cells, true, before⟩ : Alr).val A c, .int .i64 t] w (NextT Al.zero 107 w) := by
  have HS := Lib.hid h
  have HK := Lib.hid hk
  clear h hk
  go_enter Tryd.func55, Tryd.ntmps55
  go_wp2_with fail
  refine (validA_is ⟨ev, ver, tm, cn, co, grid, cells, true, before⟩ A c _ true HK.out (HS.out.below (by (repeat (first | exact Below.refl _ _ | assumption | refine below_drewN ?_ _ | refine Below.drew ?_ | refine Below.setCell ?_ (by first | omega | (simp; done) | (simp; omega)) _ | refine Below.alloc ?_ (by first | omega | (simp; done) | (simp; omega)) _))))).mono ?_
  rintro e w1 ⟨rfl, hb⟩
  obtain ⟨hcw1, hfw1⟩ := bcell hb
  have Hw1 := Lib.hid ((show Below w.heap.size w _ from (by repeat (first | exact Below.refl _ _ | assumption | refine below_drewN ?_ _ | refine Below.drew ?_ | refine Below.setCell ?_ (by first | omega | (simp; done) | (simp; omega)) _ | refine Below.alloc ?_ (by first | omega | (simp; done) | (simp; omega)) _))).trans (hb.mono (by first | omega | (simp; done) | (simp; omega))))
  have hzw1 := hb.size
  try simp at hzw1
  clear hb
  have hz3 : w.heap.size + 1 < w1.heap.size := by omega
  have hz4 : w.heap.size < w1.heap.size := by omega
  go_wp2_with fail
  refine finCells (w := w1) (w.heap.size + 1) (Al.zero.lst none 0) (.tuple #[Al.zero.val none 0, .int .i64 107]) rfl ?_ ?_ (show NextT Al.zero 107 w _ _ from ⟨rfl, ?_⟩)
  · intro W hW
    have r0 := hW 0 (by simp)
    have r1 := hW 1 (by simp)
    have r2 := hW 2 (by simp)
    have r3 := hW 3 (by simp)
    have r4 := hW 4 (by simp)
    have r5 := hW 5 (by simp)
    have r6 := hW 6 (by simp)
    have r7 := hW 7 (by simp)
    have r8 := hW 8 (by simp)
    clear hW
    simp only [List.getElem_cons_zero, List.getElem_cons_succ] at r0 r1 r2 r3 r4 r5 r6 r7 r8
    simp [results, Tryd.results55, go_sem, r0, r1, r2, r3, r4, r5, r6, r7, r8]
  · refine lt9 ?_
    simp [go_sem, hcw1]
  · exact below_setCells (by omega) _ _ _ _ Hw1.out

set_option maxRecDepth 100000 in
set_option maxHeartbeats 1000000 in
theorem next_108 (ev : ByteArray) (ver tm cn co grid before : Int) (cells : List Int) (A : Option Addr) (c : Nat) (t : Int) (w : World) (hk : okA ⟨ev, ver, tm, cn, co, grid, cells, false, before⟩ = true) (ht : t < tm) (h : AIn w ⟨ev, ver, tm, cn, co, grid, cells, false, before⟩ A c) :
    Calls Tryd.prog 55 #[(⟨ev, ver, tm, cn, co, grid, cells, false, before⟩ : Alr).val A c, .int .i64 t] w (NextT Al.zero 108 w) := by
  have HS := Lib.hid h
  have HK := Lib.hid hk
  have ht' : decide (t < tm) = true := decide_eq_true ht
  clear h hk
  go_enter Tryd.func55, Tryd.ntmps55
  go_wp2_with fail
  refine (validA_is ⟨ev, ver, tm, cn, co, grid, cells, false, before⟩ A c _ true HK.out (HS.out.below (by (repeat (first | exact Below.refl _ _ | assumption | refine below_drewN ?_ _ | refine Below.drew ?_ | refine Below.setCell ?_ (by first | omega | (simp; done) | (simp; omega)) _ | refine Below.alloc ?_ (by first | omega | (simp; done) | (simp; omega)) _))))).mono ?_
  rintro e w1 ⟨rfl, hb⟩
  obtain ⟨hcw1, hfw1⟩ := bcell hb
  have Hw1 := Lib.hid ((show Below w.heap.size w _ from (by repeat (first | exact Below.refl _ _ | assumption | refine below_drewN ?_ _ | refine Below.drew ?_ | refine Below.setCell ?_ (by first | omega | (simp; done) | (simp; omega)) _ | refine Below.alloc ?_ (by first | omega | (simp; done) | (simp; omega)) _))).trans (hb.mono (by first | omega | (simp; done) | (simp; omega))))
  have hzw1 := hb.size
  try simp at hzw1
  clear hb
  have hz3 : w.heap.size + 1 < w1.heap.size := by omega
  have hz4 : w.heap.size < w1.heap.size := by omega
  go_wp2_with fail
  refine finCells (w := w1) (w.heap.size + 1) (Al.zero.lst none 0) (.tuple #[Al.zero.val none 0, .int .i64 108]) rfl ?_ ?_ (show NextT Al.zero 108 w _ _ from ⟨rfl, ?_⟩)
  · intro W hW
    have r0 := hW 0 (by simp)
    have r1 := hW 1 (by simp)
    have r2 := hW 2 (by simp)
    have r3 := hW 3 (by simp)
    have r4 := hW 4 (by simp)
    have r5 := hW 5 (by simp)
    have r6 := hW 6 (by simp)
    have r7 := hW 7 (by simp)
    have r8 := hW 8 (by simp)
    clear hW
    simp only [List.getElem_cons_zero, List.getElem_cons_succ] at r0 r1 r2 r3 r4 r5 r6 r7 r8
    simp [results, Tryd.results55, go_sem, r0, r1, r2, r3, r4, r5, r6, r7, r8]
  · refine lt9 ?_
    simp [go_sem, hcw1]
  · exact below_setCells (by omega) _ _ _ _ Hw1.out
end Go.Proofs.YtohfofecbdfkgaaDoor
