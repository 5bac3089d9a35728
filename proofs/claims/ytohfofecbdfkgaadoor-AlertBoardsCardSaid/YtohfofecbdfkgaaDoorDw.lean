/-
  The walks of Withdraw, Follow and Print, of the program.
-/
import Derived.Test.YtohfofecbdfkgaaDoorNx
namespace Go.Proofs.YtohfofecbdfkgaaDoor
open Go.RowKit Al

/-- What Print gives. -/
theorem Print_t (a : Alr) (A : Option Addr) (c : Nat) (w : World) (hk : okA a = true) (h : AIn w a A c) (hr : Rdy w) :
    Calls Tryd.prog 48 #[a.val A c] w fun e w' => e = .returned (.tuple #[.string ⟨(textL a).toArray⟩, .int .i64 0]) ∧ Below w.heap.size w w' := by
  have HS := Lib.hid h
  have HK := Lib.hid hk
  have HR := Lib.hid hr
  clear h hk hr
  go_enter Tryd.func48, Tryd.ntmps48
  go_wp2_with fail
  refine (validA_is a A c _ true HK.out (HS.out.below (by (repeat (first | exact Below.refl _ _ | assumption | refine below_drewN ?_ _ | refine Below.drew ?_ | refine Below.setCell ?_ (by first | omega | (simp; done) | (simp; omega)) _ | refine Below.alloc ?_ (by first | omega | (simp; done) | (simp; omega)) _))))).mono ?_
  rintro e w1 ⟨rfl, hb⟩
  obtain ⟨hcw1, hfw1⟩ := bcell hb
  have Hw1 := Lib.hid ((show Below w.heap.size w _ from (by repeat (first | exact Below.refl _ _ | assumption | refine below_drewN ?_ _ | refine Below.drew ?_ | refine Below.setCell ?_ (by first | omega | (simp; done) | (simp; omega)) _ | refine Below.alloc ?_ (by first | omega | (simp; done) | (simp; omega)) _))).trans (hb.mono (by first | omega | (simp; done) | (simp; omega))))
  have hzw1 := hb.size
  try simp at hzw1
  clear hb
  have hz4 : w.heap.size < w1.heap.size := by omega
  go_wp2_with fail
  refine (text_ a A c w1.heap.size _ (okA_good HK.out) (HS.out.below Hw1.out).sl (Nat.le_refl _) (HR.out.below Hw1.out).tab (HR.out.below Hw1.out).big).mono ?_
  rintro e w2 ⟨rfl, hb⟩
  obtain ⟨hcw2, hfw2⟩ := bcell hb
  have Hw2 := Lib.hid ((show Below w.heap.size w _ from (by repeat (first | exact Below.refl _ _ | exact (Hw1).out | refine below_drewN ?_ _ | refine Below.drew ?_ | refine Below.setCell ?_ (by first | omega | (simp; done) | (simp; omega)) _ | refine Below.alloc ?_ (by first | omega | (simp; done) | (simp; omega)) _))).trans (hb.mono (by first | omega | (simp; done) | (simp; omega))))
  have hzw2 := hb.size
  try simp at hzw2
  clear hb
  go_wp2_with fail
  go_ret2
  exact ⟨rfl, Hw2.out⟩

theorem next_d (ev : ByteArray) (ver tm cn co grid before d : Int) (cells : List Int) (A : Option Addr) (c : Nat) (t : Int) (w : World) (hd : digA ⟨ev, ver, tm, cn, co, grid, cells, false, before⟩ = d) (hk : okA ⟨ev, ver, tm, cn, co, grid, cells, false, before⟩ = true) (ht : tm ≤ t) (h : AIn w ⟨ev, ver, tm, cn, co, grid, cells, false, before⟩ A c) (hr : Rdy w) :
    Calls Tryd.prog 55 #[(⟨ev, ver, tm, cn, co, grid, cells, false, before⟩ : Alr).val A c, .int .i64 t] w (NextT ⟨ev, ver + 1, t, cn, co, grid, [], false, d⟩ 0 w) := by
  subst hd
  exact next_t ev ver tm cn co grid before cells A c t w hk (by omega) h hr

set_option maxRecDepth 100000 in
set_option maxHeartbeats 1000000 in
/-- Withdraw, of an alert that may be withdrawn. -/
theorem Withdraw_t (ev : ByteArray) (ver tm cn co grid before d : Int) (cells : List Int) (A : Option Addr) (c : Nat) (t : Int) (w : World) (hd : digA ⟨ev, ver, tm, cn, co, grid, cells, false, before⟩ = d) (hk : okA ⟨ev, ver, tm, cn, co, grid, cells, false, before⟩ = true) (ht : tm ≤ t)
    (h : AIn w ⟨ev, ver, tm, cn, co, grid, cells, false, before⟩ A c) (hr : Rdy w) (hn : okA ⟨ev, ver + 1, t, cn, co, grid, [], true, d⟩ = true) :
    Calls Tryd.prog 20 #[(⟨ev, ver, tm, cn, co, grid, cells, false, before⟩ : Alr).val A c, .int .i64 t] w
      (OwnT w.heap.size ⟨ev, ver + 1, t, cn, co, grid, [], true, d⟩ 0 w) := by
  have HS := Lib.hid h
  have HK := Lib.hid hk
  have HR := Lib.hid hr
  have HN := Lib.hid hn
  have HE := Lib.hid h.ev
  have HD := Lib.hid hd
  have HT := Lib.hid ht
  clear h hk hr hn hd ht
  go_enter Tryd.func20, Tryd.ntmps20
  go_wp2_with fail
  refine (next_d ev ver tm cn co grid before d cells A c t _ HD.out HK.out HT.out (HS.out.below (by (repeat (first | exact Below.refl _ _ | assumption | refine below_drewN ?_ _ | refine Below.drew ?_ | refine Below.setCell ?_ (by first | omega | (simp; done) | (simp; omega)) _ | refine Below.alloc ?_ (by first | omega | (simp; done) | (simp; omega)) _)))) (HR.out.below (by (repeat (first | exact Below.refl _ _ | assumption | refine below_drewN ?_ _ | refine Below.drew ?_ | refine Below.setCell ?_ (by first | omega | (simp; done) | (simp; omega)) _ | refine Below.alloc ?_ (by first | omega | (simp; done) | (simp; omega)) _))))).mono ?_
  rintro e w1 ⟨rfl, hb⟩
  obtain ⟨hcw1, hfw1⟩ := bcell hb
  have Hw1 := Lib.hid ((show Below w.heap.size w _ from (by repeat (first | exact Below.refl _ _ | assumption | refine below_drewN ?_ _ | refine Below.drew ?_ | refine Below.setCell ?_ (by first | omega | (simp; done) | (simp; omega)) _ | refine Below.alloc ?_ (by first | omega | (simp; done) | (simp; omega)) _))).trans (hb.mono (by first | omega | (simp; done) | (simp; omega))))
  have hzw1 := hb.size
  try simp at hzw1
  clear hb
  have hz3 : w.heap.size + 1 < w1.heap.size := by omega
  have hz4 : w.heap.size < w1.heap.size := by omega
  go_wp2_with fail
  refine (drafted_t ⟨ev, ver + 1, t, cn, co, grid, [], true, d⟩ none 0 _ HN.out ⟨HE.out, Sl.nilS _ _ _⟩).mono ?_
  rintro e w2 ⟨A', c', rfl, hown, hbw⟩
  obtain ⟨hcw2, hfw2⟩ := bcell hbw
  have HB := Lib.hid ((show Below w.heap.size w _ from (by repeat (first | exact Below.refl _ _ | exact (Hw1).out | refine below_drewN ?_ _ | refine Below.drew ?_ | refine Below.setCell ?_ (by first | omega | (simp; done) | (simp; omega)) _ | refine Below.alloc ?_ (by first | omega | (simp; done) | (simp; omega)) _))).trans (hbw.mono (by first | omega | (simp; done) | (simp; omega))))
  have HO := Lib.hid hown
  have hz2 := hbw.size
  simp at hz2
  clear hbw hown
  have hz5 : w.heap.size + 1 < w2.heap.size := by omega
  go_wp2_with fail
  refine finCells (w := w2) (w.heap.size + 1) (Al.Alr.lst ⟨ev, ver + 1, t, cn, co, grid, [], true, d⟩ A' c') (.tuple #[(⟨ev, ver + 1, t, cn, co, grid, [], true, d⟩ : Alr).val A' c', .int .i64 0]) rfl ?_ ?_ (show OwnT w.heap.size _ 0 w _ _ from ⟨A', c', rfl, ?_, ?_⟩)
  · intro W hW
    have r0 := hW 0 (by simp)
    have r1 := hW 1 (by simp)
    have r2 := hW 2 (by simp)
    have r3 := hW 3 (by simp)
    have r4 := hW 4 (by simp)
    have r5 := hW 5 (by simp)
    have r6 := hW 6 (by simp)
    have r7 := hW 7 (by simp)
    have r8 := hW 8 (by simp)
    clear hW
    simp only [List.getElem_cons_zero, List.getElem_cons_succ] at r0 r1 r2 r3 r4 r5 r6 r7 r8
    simp [results, Tryd.results20, go_sem, r0, r1, r2, r3, r4, r5, r6, r7, r8]
  · refine lt9 ?_
    have hz6 : w.heap.size + 1 < w1.heap.size + 1 := by omega
    simp [go_sem, hcw1, hcw2, hz3, hz6]
  · refine own_more (base := w1.heap.size + 1) (own_setCells ?_ _ _ _ ?_) ?_
    · omega
    · have := HO.out
      simp at this
      exact this
    · omega
  · exact below_setCells (by omega) _ _ _ _ HB.out
end Go.Proofs.YtohfofecbdfkgaaDoor
