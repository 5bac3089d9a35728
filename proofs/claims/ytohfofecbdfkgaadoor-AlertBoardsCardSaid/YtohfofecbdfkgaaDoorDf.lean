/-
  The walks of drafted, next, Draft, Follow, Withdraw, Print, of the program.
-/
import Derived.Test.YtohfofecbdfkgaaDoorDr
namespace Go.Proofs.YtohfofecbdfkgaaDoor
open Go.RowKit Al

/-- The zero alert. -/
def Al.zero : Alr := ⟨⟨#[]⟩, 0, 0, 0, 0, 0, [], false, 0⟩
/-- An alert with cells in memory of the call's own, and an error. -/
def OwnT (base : Nat) (a : Alr) (k : Int) (w : World) (e : Ending) (w' : World) : Prop := ∃ A c, e = .returned (.tuple #[a.val A c, .int .i64 k]) ∧ ARow w' base a A c ∧ Below w.heap.size w w'
theorem zero_row (w : World) (base : Nat) : ARow w base Al.zero none 0 := World.ownsRow_nil _ _ _ _
theorem own_in {w : World} {base : Nat} {a : Alr} {A : Option Addr} {c : Nat} (hs : a.ev.size ≤ maxLen) (h : ARow w base a A c) : AIn w a A c := ⟨hs, Sl.of_own h⟩
theorem okA_short {a : Alr} (h : okA a = true) : a.cells.length * 8 ≤ 140737488355328 := by
  have := (okA_good h).many
  omega

set_option maxRecDepth 100000 in
theorem drafted_t (a : Alr) (A : Option Addr) (c : Nat) (w : World) (hk : okA a = true) (h : AIn w a A c) :
    Calls Tryd.prog 52 #[a.val A c] w (OwnT w.heap.size a 0 w) := by
  have HS := Lib.hid h
  have HK := Lib.hid hk
  clear h hk
  go_enter Tryd.func52, Tryd.ntmps52
  go_wp2_with fail
  refine (validA_is a A c _ true HK.out (HS.out.below (by (repeat (first | exact Below.refl _ _ | assumption | refine below_drewN ?_ _ | refine Below.drew ?_ | refine Below.setCell ?_ (by first | omega | (simp; done) | (simp; omega)) _ | refine Below.alloc ?_ (by first | omega | (simp; done) | (simp; omega)) _))))).mono ?_
  rintro e w1 ⟨rfl, hb⟩
  obtain ⟨hcw1, hfw1⟩ := bcell hb
  have Hw1 := Lib.hid ((show Below w.heap.size w _ from (by repeat (first | exact Below.refl _ _ | assumption | refine below_drewN ?_ _ | refine Below.drew ?_ | refine Below.setCell ?_ (by first | omega | (simp; done) | (simp; omega)) _ | refine Below.alloc ?_ (by first | omega | (simp; done) | (simp; omega)) _))).trans (hb.mono (by first | omega | (simp; done) | (simp; omega))))
  have hzw1 := hb.size
  try simp at hzw1
  clear hb
  go_wp2_with fail
  refine (copied_ a A c _ (HS.out.below Hw1.out) (okA_short HK.out)).mono ?_
  rintro e w2 ⟨A', c', rfl, hown, hbw⟩
  obtain ⟨hc2, hf2⟩ := bcell hbw
  have HB := Lib.hid (Hw1.out.trans (hbw.mono Hw1.out.size))
  have HO := Lib.hid hown
  have hz2 := hbw.size
  clear hbw hown
  have hz3 : w.heap.size + 1 < w1.heap.size := by omega
  have hz4 : w.heap.size + 1 < w2.heap.size := by omega
  go_wp2_with fail
  refine finCells (w := w2) (w.heap.size + 1) (a.lst A' c') (.tuple #[a.val A' c', .int .i64 0]) rfl ?_ ?_ (show OwnT w.heap.size a 0 w _ _ from ⟨A', c', rfl, ?_, ?_⟩)
  · intro W hW
    have r0 := hW 0 (by simp)
    have r1 := hW 1 (by simp)
    have r2 := hW 2 (by simp)
    have r3 := hW 3 (by simp)
    have r4 := hW 4 (by simp)
    have r5 := hW 5 (by simp)
    have r6 := hW 6 (by simp)
    have r7 := hW 7 (by simp)
    have r8 := hW 8 (by simp)
    clear hW
    simp only [List.getElem_cons_zero, List.getElem_cons_succ] at r0 r1 r2 r3 r4 r5 r6 r7 r8
    simp [results, Tryd.results52, go_sem, r0, r1, r2, r3, r4, r5, r6, r7, r8]
  · refine lt9 ?_
    simp [go_sem, hcw1, hc2, hz3]
  · exact own_more (base := w1.heap.size) (own_setCells (by omega) _ _ _ HO.out) (by omega)
  · exact below_setCells (by omega) _ _ _ _ HB.out

set_option maxRecDepth 100000 in
theorem drafted_f (a : Alr) (A : Option Addr) (c : Nat) (w : World) (hk : okA a = false) (h : AIn w a A c) :
    Calls Tryd.prog 52 #[a.val A c] w (OwnT w.heap.size Al.zero 101 w) := by
  have HS := Lib.hid h
  have HK := Lib.hid hk
  clear h hk
  go_enter Tryd.func52, Tryd.ntmps52
  go_wp2_with fail
  refine (validA_is a A c _ false HK.out (HS.out.below (by (repeat (first | exact Below.refl _ _ | assumption | refine below_drewN ?_ _ | refine Below.drew ?_ | refine Below.setCell ?_ (by first | omega | (simp; done) | (simp; omega)) _ | refine Below.alloc ?_ (by first | omega | (simp; done) | (simp; omega)) _))))).mono ?_
  rintro e w1 ⟨rfl, hb⟩
  obtain ⟨hcw1, hfw1⟩ := bcell hb
  have Hw1 := Lib.hid ((show Below w.heap.size w _ from (by repeat (first | exact Below.refl _ _ | assumption | refine below_drewN ?_ _ | refine Below.drew ?_ | refine Below.setCell ?_ (by first | omega | (simp; done) | (simp; omega)) _ | refine Below.alloc ?_ (by first | omega | (simp; done) | (simp; omega)) _))).trans (hb.mono (by first | omega | (simp; done) | (simp; omega))))
  have hzw1 := hb.size
  try simp at hzw1
  clear hb
  have hz3 : w.heap.size + 1 < w1.heap.size := by omega
  go_wp2_with fail
  refine finCells (w := w1) (w.heap.size + 1) (Al.zero.lst none 0) (.tuple #[Al.zero.val none 0, .int .i64 101]) rfl ?_ ?_ (show OwnT w.heap.size Al.zero 101 w _ _ from ⟨none, 0, rfl, zero_row _ _, ?_⟩)
  · intro W hW
    have r0 := hW 0 (by simp)
    have r1 := hW 1 (by simp)
    have r2 := hW 2 (by simp)
    have r3 := hW 3 (by simp)
    have r4 := hW 4 (by simp)
    have r5 := hW 5 (by simp)
    have r6 := hW 6 (by simp)
    have r7 := hW 7 (by simp)
    have r8 := hW 8 (by simp)
    clear hW
    simp only [List.getElem_cons_zero, List.getElem_cons_succ] at r0 r1 r2 r3 r4 r5 r6 r7 r8
    simp [results, Tryd.results52, go_sem, r0, r1, r2, r3, r4, r5, r6, r7, r8]
  · refine lt9 ?_
    simp [go_sem, hcw1]
  · exact below_setCells (by omega) _ _ _ _ Hw1.out
end Go.Proofs.YtohfofecbdfkgaaDoor
