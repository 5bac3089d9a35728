/-
  The walks of Draft, on both sides, and of valid, next, Follow and Withdraw, of the specification.
-/
import Derived.Test.YtohfofecbdfkgaaDoorFo
import Derived.Deep.RegionHeld3
import Derived.Deep.DrawnRows
namespace Go.Proofs.YtohfofecbdfkgaaDoor
open Go.RowKit Al
attribute [local go_sem ↓] Go.wp_at_zero Go.wp_at_succ

/-- What the specification's valid says of an alert, in this world and those that grow from it. -/
def RvalSays (a : Alr) (A : Option Addr) (c : Nat) (x : Alr) (k : Int) (w : World) : Prop :=
  ∀ w', Below w.heap.size w w' → Calls Tryd.prog 53 #[a.val A c] w' (OwnT w'.heap.size x k w')
set_option maxRecDepth 100000 in
theorem rvalid_t (a : Alr) (A : Option Addr) (c : Nat) (w : World) (hk : okA a = true) (h : AIn w a A c) :
    Calls Tryd.prog 53 #[a.val A c] w (OwnT w.heap.size a 0 w) := by
  have HS := Lib.hid h
  have HK := Lib.hid hk
  clear h hk
  go_enter Tryd.func53, Tryd.ntmps53
  go_wp2_with fail
  refine (rcheckA_is a A c _ 0 (errA_t HK.out) (HS.out.below (by (repeat (first | exact Below.refl _ _ | assumption | refine below_drewN ?_ _ | refine Below.drew ?_ | refine Below.setCell ?_ (by first | omega | (simp; done) | (simp; omega)) _ | refine Below.alloc ?_ (by first | omega | (simp; done) | (simp; omega)) _))))).mono ?_
  rintro e w1 ⟨rfl, hb⟩
  obtain ⟨hcw1, hfw1⟩ := bcell hb
  have Hw1 := Lib.hid ((show Below w.heap.size w _ from (by repeat (first | exact Below.refl _ _ | assumption | refine below_drewN ?_ _ | refine Below.drew ?_ | refine Below.setCell ?_ (by first | omega | (simp; done) | (simp; omega)) _ | refine Below.alloc ?_ (by first | omega | (simp; done) | (simp; omega)) _))).trans (hb.mono (by first | omega | (simp; done) | (simp; omega))))
  have hzw1 := hb.size
  try simp at hzw1
  clear hb
  have hz3 : w.heap.size + 1 < w1.heap.size := by omega
  have hz4 : w.heap.size < w1.heap.size := by omega
  go_wp2_with fail
  refine (OwnInts_ a.cells A c _ (HS.out.below Hw1.out).sl (okA_short HK.out)).mono ?_
  rintro e w2 ⟨A', c', rfl, hown, hbw⟩
  obtain ⟨hc2, hf2⟩ := bcell hbw
  have HB := Lib.hid (Hw1.out.trans (hbw.mono Hw1.out.size))
  have HO := Lib.hid hown
  have hz2 := hbw.size
  clear hbw hown
  have hz5 : w.heap.size + 1 < w2.heap.size := by omega
  have hset : ∀ u, (w2.setCell ⟨w.heap.size, 6, none⟩ u).cell? ⟨w.heap.size, 6, none⟩ = some u := fun u => World.cell?_setCell_same' _ _ _ (by rw [hc2 _ _ hz4]; simp [go_sem, hcw1])
  go_wp2_with fail
  refine finCells (w := w2.setCell ⟨w.heap.size, 6, none⟩ (.slice A' a.cells.length c')) (w.heap.size + 1) (a.lst A' c') (.tuple #[a.val A' c', .int .i64 0]) rfl ?_ ?_ (show OwnT w.heap.size a 0 w _ _ from ⟨A', c', rfl, ?_, ?_⟩)
  · intro W hW
    have r0 := hW 0 (by simp)
    have r1 := hW 1 (by simp)
    have r2 := hW 2 (by simp)
    have r3 := hW 3 (by simp)
    have r4 := hW 4 (by simp)
    have r5 := hW 5 (by simp)
    have r6 := hW 6 (by simp)
    have r7 := hW 7 (by simp)
    have r8 := hW 8 (by simp)
    clear hW
    simp only [List.getElem_cons_zero, List.getElem_cons_succ] at r0 r1 r2 r3 r4 r5 r6 r7 r8
    simp [results, Tryd.results53, go_sem, r0, r1, r2, r3, r4, r5, r6, r7, r8]
  · refine lt9 ?_
    simp [go_sem, hcw1, hc2, hz3]
  · exact own_more (base := w1.heap.size) (own_setCells (by omega) _ _ _ (ownsRow_setCell_below HO.out (by show w.heap.size < w1.heap.size; omega) _)) (by omega)
  · exact below_setCells (by omega) _ _ _ _ (HB.out.setCell (by simp) _)
set_option maxRecDepth 100000 in
theorem rvalid_f (a : Alr) (A : Option Addr) (c : Nat) (w : World) (hk : okA a = false) (h : AIn w a A c) :
    Calls Tryd.prog 53 #[a.val A c] w (OwnT w.heap.size Al.zero 101 w) := by
  have HS := Lib.hid h
  have HK := Lib.hid hk
  clear h hk
  go_enter Tryd.func53, Tryd.ntmps53
  go_wp2_with fail
  refine (rcheckA_is a A c _ 101 (errA_f HK.out) (HS.out.below (by (repeat (first | exact Below.refl _ _ | assumption | refine below_drewN ?_ _ | refine Below.drew ?_ | refine Below.setCell ?_ (by first | omega | (simp; done) | (simp; omega)) _ | refine Below.alloc ?_ (by first | omega | (simp; done) | (simp; omega)) _))))).mono ?_
  rintro e w1 ⟨rfl, hb⟩
  obtain ⟨hcw1, hfw1⟩ := bcell hb
  have Hw1 := Lib.hid ((show Below w.heap.size w _ from (by repeat (first | exact Below.refl _ _ | assumption | refine below_drewN ?_ _ | refine Below.drew ?_ | refine Below.setCell ?_ (by first | omega | (simp; done) | (simp; omega)) _ | refine Below.alloc ?_ (by first | omega | (simp; done) | (simp; omega)) _))).trans (hb.mono (by first | omega | (simp; done) | (simp; omega))))
  have hzw1 := hb.size
  try simp at hzw1
  clear hb
  have hz3 : w.heap.size + 1 < w1.heap.size := by omega
  go_wp2_with fail
  refine finCells (w := w1) (w.heap.size + 1) (Al.zero.lst none 0) (.tuple #[Al.zero.val none 0, .int .i64 101]) rfl ?_ ?_ (show OwnT w.heap.size Al.zero 101 w _ _ from ⟨none, 0, rfl, zero_row _ _, ?_⟩)
  · intro W hW
    have r0 := hW 0 (by simp)
    have r1 := hW 1 (by simp)
    have r2 := hW 2 (by simp)
    have r3 := hW 3 (by simp)
    have r4 := hW 4 (by simp)
    have r5 := hW 5 (by simp)
    have r6 := hW 6 (by simp)
    have r7 := hW 7 (by simp)
    have r8 := hW 8 (by simp)
    clear hW
    simp only [List.getElem_cons_zero, List.getElem_cons_succ] at r0 r1 r2 r3 r4 r5 r6 r7 r8
    simp [results, Tryd.results53, go_sem, r0, r1, r2, r3, r4, r5, r6, r7, r8]
  · refine lt9 ?_
    simp [go_sem, hcw1]
  · exact below_setCells (by omega) _ _ _ _ Hw1.out
theorem rvalid_ (a : Alr) (A : Option Addr) (c : Nat) (w : World) (h : AIn w a A c) : RvalSays a A c (draftA a) (errA (okA a) 101) w := by
  intro w' hb
  by_cases hk : okA a = true
  · rw [draftA_t hk, errA_t hk]; exact rvalid_t a A c w' hk (h.below hb)
  · have hk' : okA a = false := by simpa using hk
    rw [draftA_f hk', errA_f hk']; exact rvalid_f a A c w' hk' (h.below hb)

set_option maxRecDepth 100000 in
set_option maxHeartbeats 1000000 in
theorem Draft_e (ev : ByteArray) (t pa pb pl cn co lim g : Int) (n : Nat) (D : Option Addr) (dc : Nat) (w : World) (h : lim < cn) :
    Calls Tryd.prog 14 #[.string ev, .int .i64 t, .agg #[.int .i64 pa, .int .i64 pb, .int .i64 pl, .int .i64 cn, .int .i64 co], .int .i64 lim, .int .i64 g, .slice D n dc] w (OwnT w.heap.size Al.zero 4 w) := by
  have t1 : decide (lim < cn) = true := decide_eq_true h
  clear h
  go_enter Tryd.func14, Tryd.ntmps14
  go_wp2_with fail
  exact bodyPost_ret (v := .tuple #[Al.zero.val none 0, .int .i64 4]) (by simp [results, Tryd.results14, go_sem, Al.zero]) rfl ⟨none, 0, rfl, zero_row _ _, (by repeat (first | exact Below.refl _ _ | assumption | refine below_drewN ?_ _ | refine Below.drew ?_ | refine Below.setCell ?_ (by first | omega | (simp; done) | (simp; omega)) _ | refine Below.alloc ?_ (by first | omega | (simp; done) | (simp; omega)) _))⟩
set_option maxRecDepth 100000 in
set_option maxHeartbeats 1000000 in
theorem Draft_n (ev : ByteArray) (t pa pb pl cn co lim g : Int) (l : List Int) (D : Option Addr) (dc : Nat) (x : Alr) (k : Int) (w : World) (h : ¬ lim < cn) (hd : DraftSays ⟨ev, 1, t, cn, co, g, l, false, 0⟩ D dc x k w) :
    Calls Tryd.prog 14 #[.string ev, .int .i64 t, .agg #[.int .i64 pa, .int .i64 pb, .int .i64 pl, .int .i64 cn, .int .i64 co], .int .i64 lim, .int .i64 g, .slice D l.length dc] w (OwnT w.heap.size x k w) := by
  have t1 : decide (lim < cn) = false := decide_eq_false h
  clear h
  go_enter Tryd.func14, Tryd.ntmps14
  go_wp2_with fail
  refine (hd _ (by repeat (first | exact Below.refl _ _ | assumption | refine below_drewN ?_ _ | refine Below.drew ?_ | refine Below.setCell ?_ (by first | omega | (simp; done) | (simp; omega)) _ | refine Below.alloc ?_ (by first | omega | (simp; done) | (simp; omega)) _))).mono ?_
  rintro e w2 ⟨A', c', rfl, hown, hbw⟩
  obtain ⟨hcw2, hfw2⟩ := bcell hbw
  have HB := Lib.hid ((show Below w.heap.size w _ from (by repeat (first | exact Below.refl _ _ | assumption | refine below_drewN ?_ _ | refine Below.drew ?_ | refine Below.setCell ?_ (by first | omega | (simp; done) | (simp; omega)) _ | refine Below.alloc ?_ (by first | omega | (simp; done) | (simp; omega)) _))).trans (hbw.mono (by first | omega | (simp; done) | (simp; omega))))
  have HO := Lib.hid hown
  have hz2 := hbw.size
  simp at hz2
  clear hbw hown
  have hz5 : w.heap.size + 1 < w2.heap.size := by omega
  go_wp2_with fail
  refine finCells (w := w2) (w.heap.size + 1) (x.lst A' c') (.tuple #[x.val A' c', .int .i64 k]) rfl ?_ ?_ (show OwnT w.heap.size x k w _ _ from ⟨A', c', rfl, ?_, ?_⟩)
  · intro W hW
    have r0 := hW 0 (by simp)
    have r1 := hW 1 (by simp)
    have r2 := hW 2 (by simp)
    have r3 := hW 3 (by simp)
    have r4 := hW 4 (by simp)
    have r5 := hW 5 (by simp)
    have r6 := hW 6 (by simp)
    have r7 := hW 7 (by simp)
    have r8 := hW 8 (by simp)
    clear hW
    simp only [List.getElem_cons_zero, List.getElem_cons_succ] at r0 r1 r2 r3 r4 r5 r6 r7 r8
    simp [results, Tryd.results14, go_sem, r0, r1, r2, r3, r4, r5, r6, r7, r8]
  · refine lt9 ?_
    have hz6 : w.heap.size + 1 < w.heap.size + 1 + 1 := by omega
    simp [go_sem, hcw2, hz6]
  · refine own_more (base := w.heap.size + 1 + 1) (own_setCells ?_ _ _ _ ?_) ?_
    · omega
    · have := HO.out
      simp at this
      exact this
    · omega
  · exact below_setCells (by omega) _ _ _ _ HB.out

set_option maxRecDepth 100000 in
set_option maxHeartbeats 1000000 in
theorem rDraft_e (ev : ByteArray) (t pa pb pl cn co lim g : Int) (n : Nat) (D : Option Addr) (dc : Nat) (w : World) (h : lim < cn) :
    Calls Tryd.prog 15 #[.string ev, .int .i64 t, .agg #[.int .i64 pa, .int .i64 pb, .int .i64 pl, .int .i64 cn, .int .i64 co], .int .i64 lim, .int .i64 g, .slice D n dc] w (OwnT w.heap.size Al.zero 4 w) := by
  have t1 : decide (lim < cn) = true := decide_eq_true h
  clear h
  go_enter Tryd.func15, Tryd.ntmps15
  go_wp2_with fail
  exact bodyPost_ret (v := .tuple #[Al.zero.val none 0, .int .i64 4]) (by simp [results, Tryd.results15, go_sem, Al.zero]) rfl ⟨none, 0, rfl, zero_row _ _, (by repeat (first | exact Below.refl _ _ | assumption | refine below_drewN ?_ _ | refine Below.drew ?_ | refine Below.setCell ?_ (by first | omega | (simp; done) | (simp; omega)) _ | refine Below.alloc ?_ (by first | omega | (simp; done) | (simp; omega)) _))⟩
set_option maxRecDepth 100000 in
set_option maxHeartbeats 1000000 in
theorem rDraft_n (ev : ByteArray) (t pa pb pl cn co lim g : Int) (l : List Int) (D : Option Addr) (dc : Nat) (x : Alr) (k : Int) (w : World) (h : ¬ lim < cn) (hd : RvalSays ⟨ev, 1, t, cn, co, g, l, false, 0⟩ D dc x k w) :
    Calls Tryd.prog 15 #[.string ev, .int .i64 t, .agg #[.int .i64 pa, .int .i64 pb, .int .i64 pl, .int .i64 cn, .int .i64 co], .int .i64 lim, .int .i64 g, .slice D l.length dc] w (OwnT w.heap.size x k w) := by
  have t1 : decide (lim < cn) = false := decide_eq_false h
  clear h
  go_enter Tryd.func15, Tryd.ntmps15
  go_wp2_with fail
  refine (hd _ (by repeat (first | exact Below.refl _ _ | assumption | refine below_drewN ?_ _ | refine Below.drew ?_ | refine Below.setCell ?_ (by first | omega | (simp; done) | (simp; omega)) _ | refine Below.alloc ?_ (by first | omega | (simp; done) | (simp; omega)) _))).mono ?_
  rintro e w2 ⟨A', c', rfl, hown, hbw⟩
  obtain ⟨hcw2, hfw2⟩ := bcell hbw
  have HB := Lib.hid ((show Below w.heap.size w _ from (by repeat (first | exact Below.refl _ _ | assumption | refine below_drewN ?_ _ | refine Below.drew ?_ | refine Below.setCell ?_ (by first | omega | (simp; done) | (simp; omega)) _ | refine Below.alloc ?_ (by first | omega | (simp; done) | (simp; omega)) _))).trans (hbw.mono (by first | omega | (simp; done) | (simp; omega))))
  have HO := Lib.hid hown
  have hz2 := hbw.size
  simp at hz2
  clear hbw hown
  have hz5 : w.heap.size + 1 < w2.heap.size := by omega
  go_wp2_with fail
  refine finCells (w := w2) (w.heap.size + 1) (x.lst A' c') (.tuple #[x.val A' c', .int .i64 k]) rfl ?_ ?_ (show OwnT w.heap.size x k w _ _ from ⟨A', c', rfl, ?_, ?_⟩)
  · intro W hW
    have r0 := hW 0 (by simp)
    have r1 := hW 1 (by simp)
    have r2 := hW 2 (by simp)
    have r3 := hW 3 (by simp)
    have r4 := hW 4 (by simp)
    have r5 := hW 5 (by simp)
    have r6 := hW 6 (by simp)
    have r7 := hW 7 (by simp)
    have r8 := hW 8 (by simp)
    clear hW
    simp only [List.getElem_cons_zero, List.getElem_cons_succ] at r0 r1 r2 r3 r4 r5 r6 r7 r8
    simp [results, Tryd.results15, go_sem, r0, r1, r2, r3, r4, r5, r6, r7, r8]
  · refine lt9 ?_
    have hz6 : w.heap.size + 1 < w.heap.size + 1 + 1 := by omega
    simp [go_sem, hcw2, hz6]
  · refine own_more (base := w.heap.size + 1 + 1) (own_setCells ?_ _ _ _ ?_) ?_
    · omega
    · have := HO.out
      simp at this
      exact this
    · omega
  · exact below_setCells (by omega) _ _ _ _ HB.out

set_option maxRecDepth 100000 in
theorem rnext_101 (ev : ByteArray) (ver tm cn co grid before : Int) (cells : List Int) (A : Option Addr) (c : Nat) (t : Int) (w : World) (wd : Bool) (hk : okA ⟨ev, ver, tm, cn, co, grid, cells, wd, before⟩ = false) (h : AIn w ⟨ev, ver, tm, cn, co, grid, cells, wd, before⟩ A c) :
    Calls Tryd.prog 56 #[(⟨ev, ver, tm, cn, co, grid, cells, wd, before⟩ : Alr).val A c, .int .i64 t] w fun e w' => e = .returned (.int .i64 (nextE ⟨ev, ver, tm, cn, co, grid, cells, wd, before⟩ t)) ∧ Below w.heap.size w w' := by
  have HS := Lib.hid h
  have HK := Lib.hid hk
  clear h hk
  go_enter Tryd.func56, Tryd.ntmps56
  go_wp2_with fail
  refine (rcheckA_is ⟨ev, ver, tm, cn, co, grid, cells, wd, before⟩ A c _ 101 (errA_f HK.out) (HS.out.below (by (repeat (first | exact Below.refl _ _ | assumption | refine below_drewN ?_ _ | refine Below.drew ?_ | refine Below.setCell ?_ (by first | omega | (simp; done) | (simp; omega)) _ | refine Below.alloc ?_ (by first | omega | (simp; done) | (simp; omega)) _))))).mono ?_
  rintro e w1 ⟨rfl, hb⟩
  obtain ⟨hcw1, hfw1⟩ := bcell hb
  have Hw1 := Lib.hid ((show Below w.heap.size w _ from (by repeat (first | exact Below.refl _ _ | assumption | refine below_drewN ?_ _ | refine Below.drew ?_ | refine Below.setCell ?_ (by first | omega | (simp; done) | (simp; omega)) _ | refine Below.alloc ?_ (by first | omega | (simp; done) | (simp; omega)) _))).trans (hb.mono (by first | omega | (simp; done) | (simp; omega))))
  have hzw1 := hb.size
  try simp at hzw1
  clear hb
  have hz4 : w.heap.size < w1.heap.size := by omega
  go_wp2_with fail
  go_ret
  exact ⟨ret_int (nextE_101 HK.out).symm, Hw1.out⟩

set_option maxRecDepth 100000 in
theorem rnext_107 (ev : ByteArray) (ver tm cn co grid before : Int) (cells : List Int) (A : Option Addr) (c : Nat) (t : Int) (w : World) (hk : okA ⟨ev, ver, tm, cn, co, grid, cells, true, before⟩ = true) (h : AIn w ⟨ev, ver, tm, cn, co, grid, cells, true, before⟩ A c) :
    Calls Tryd.prog 56 #[(⟨ev, ver, tm, cn, co, grid, cells, true, before⟩ : Alr).val A c, .int .i64 t] w fun e w' => e = .returned (.int .i64 (nextE ⟨ev, ver, tm, cn, co, grid, cells, true, before⟩ t)) ∧ Below w.heap.size w w' := by
  have HS := Lib.hid h
  have HK := Lib.hid hk
  have HX := Lib.hid (nextE_107 (t := t) hk rfl)
  clear h hk
  go_enter Tryd.func56, Tryd.ntmps56
  go_wp2_with fail
  refine (rcheckA_is ⟨ev, ver, tm, cn, co, grid, cells, true, before⟩ A c _ 0 (errA_t HK.out) (HS.out.below (by (repeat (first | exact Below.refl _ _ | assumption | refine below_drewN ?_ _ | refine Below.drew ?_ | refine Below.setCell ?_ (by first | omega | (simp; done) | (simp; omega)) _ | refine Below.alloc ?_ (by first | omega | (simp; done) | (simp; omega)) _))))).mono ?_
  rintro e w1 ⟨rfl, hb⟩
  obtain ⟨hcw1, hfw1⟩ := bcell hb
  have Hw1 := Lib.hid ((show Below w.heap.size w _ from (by repeat (first | exact Below.refl _ _ | assumption | refine below_drewN ?_ _ | refine Below.drew ?_ | refine Below.setCell ?_ (by first | omega | (simp; done) | (simp; omega)) _ | refine Below.alloc ?_ (by first | omega | (simp; done) | (simp; omega)) _))).trans (hb.mono (by first | omega | (simp; done) | (simp; omega))))
  have hzw1 := hb.size
  try simp at hzw1
  clear hb
  have hz4 : w.heap.size < w1.heap.size := by omega
  go_wp2_with fail
  go_ret
  exact ⟨ret_int (HX.out).symm, Hw1.out⟩

set_option maxRecDepth 100000 in
theorem rnext_108 (ev : ByteArray) (ver tm cn co grid before : Int) (cells : List Int) (A : Option Addr) (c : Nat) (t : Int) (w : World) (hk : okA ⟨ev, ver, tm, cn, co, grid, cells, false, before⟩ = true) (ht : t < tm) (h : AIn w ⟨ev, ver, tm, cn, co, grid, cells, false, before⟩ A c) :
    Calls Tryd.prog 56 #[(⟨ev, ver, tm, cn, co, grid, cells, false, before⟩ : Alr).val A c, .int .i64 t] w fun e w' => e = .returned (.int .i64 (nextE ⟨ev, ver, tm, cn, co, grid, cells, false, before⟩ t)) ∧ Below w.heap.size w w' := by
  have HS := Lib.hid h
  have HK := Lib.hid hk
  have HX := Lib.hid (nextE_108 hk rfl ht)
  have t1 : decide (t < tm) = true := decide_eq_true ht
  clear h hk
  go_enter Tryd.func56, Tryd.ntmps56
  go_wp2_with fail
  refine (rcheckA_is ⟨ev, ver, tm, cn, co, grid, cells, false, before⟩ A c _ 0 (errA_t HK.out) (HS.out.below (by (repeat (first | exact Below.refl _ _ | assumption | refine below_drewN ?_ _ | refine Below.drew ?_ | refine Below.setCell ?_ (by first | omega | (simp; done) | (simp; omega)) _ | refine Below.alloc ?_ (by first | omega | (simp; done) | (simp; omega)) _))))).mono ?_
  rintro e w1 ⟨rfl, hb⟩
  obtain ⟨hcw1, hfw1⟩ := bcell hb
  have Hw1 := Lib.hid ((show Below w.heap.size w _ from (by repeat (first | exact Below.refl _ _ | assumption | refine below_drewN ?_ _ | refine Below.drew ?_ | refine Below.setCell ?_ (by first | omega | (simp; done) | (simp; omega)) _ | refine Below.alloc ?_ (by first | omega | (simp; done) | (simp; omega)) _))).trans (hb.mono (by first | omega | (simp; done) | (simp; omega))))
  have hzw1 := hb.size
  try simp at hzw1
  clear hb
  have hz4 : w.heap.size < w1.heap.size := by omega
  go_wp2_with fail
  go_ret
  exact ⟨ret_int (HX.out).symm, Hw1.out⟩

set_option maxRecDepth 100000 in
theorem rnext_0 (ev : ByteArray) (ver tm cn co grid before : Int) (cells : List Int) (A : Option Addr) (c : Nat) (t : Int) (w : World) (hk : okA ⟨ev, ver, tm, cn, co, grid, cells, false, before⟩ = true) (ht : ¬ t < tm) (h : AIn w ⟨ev, ver, tm, cn, co, grid, cells, false, before⟩ A c) :
    Calls Tryd.prog 56 #[(⟨ev, ver, tm, cn, co, grid, cells, false, before⟩ : Alr).val A c, .int .i64 t] w fun e w' => e = .returned (.int .i64 (nextE ⟨ev, ver, tm, cn, co, grid, cells, false, before⟩ t)) ∧ Below w.heap.size w w' := by
  have HS := Lib.hid h
  have HK := Lib.hid hk
  have HX := Lib.hid (nextE_0 hk rfl ht)
  have t1 : decide (t < tm) = false := decide_eq_false ht
  clear h hk
  go_enter Tryd.func56, Tryd.ntmps56
  go_wp2_with fail
  refine (rcheckA_is ⟨ev, ver, tm, cn, co, grid, cells, false, before⟩ A c _ 0 (errA_t HK.out) (HS.out.below (by (repeat (first | exact Below.refl _ _ | assumption | refine below_drewN ?_ _ | refine Below.drew ?_ | refine Below.setCell ?_ (by first | omega | (simp; done) | (simp; omega)) _ | refine Below.alloc ?_ (by first | omega | (simp; done) | (simp; omega)) _))))).mono ?_
  rintro e w1 ⟨rfl, hb⟩
  obtain ⟨hcw1, hfw1⟩ := bcell hb
  have Hw1 := Lib.hid ((show Below w.heap.size w _ from (by repeat (first | exact Below.refl _ _ | assumption | refine below_drewN ?_ _ | refine Below.drew ?_ | refine Below.setCell ?_ (by first | omega | (simp; done) | (simp; omega)) _ | refine Below.alloc ?_ (by first | omega | (simp; done) | (simp; omega)) _))).trans (hb.mono (by first | omega | (simp; done) | (simp; omega))))
  have hzw1 := hb.size
  try simp at hzw1
  clear hb
  have hz4 : w.heap.size < w1.heap.size := by omega
  go_wp2_with fail
  go_ret
  exact ⟨ret_int (HX.out).symm, Hw1.out⟩

theorem rnext_is (a : Alr) (A : Option Addr) (c : Nat) (t k : Int) (w : World) (hk : nextE a t = k) (h : AIn w a A c) :
    Calls Tryd.prog 56 #[a.val A c, .int .i64 t] w fun e w' => e = .returned (.int .i64 k) ∧ Below w.heap.size w w' := by
  rw [← hk]
  obtain ⟨ev, ver, tm, n, of, grid, cells, wd, before⟩ := a
  by_cases h1 : okA ⟨ev, ver, tm, n, of, grid, cells, wd, before⟩ = true
  · cases wd with
    | true => exact rnext_107 ev ver tm n of grid before cells A c t w h1 h
    | false =>
      by_cases h3 : t < tm
      · exact rnext_108 ev ver tm n of grid before cells A c t w h1 h3 h
      · exact rnext_0 ev ver tm n of grid before cells A c t w h1 h3 h
  · exact rnext_101 ev ver tm n of grid before cells A c t w wd (by simpa using h1) h
theorem rdigest_is (a : Alr) (A : Option Addr) (c : Nat) (d : Int) (w : World) (hd : digA a = d) (hk : okA a = true) (h : AIn w a A c) :
    Calls Tryd.prog 57 #[a.val A c] w fun e w' => e = .returned (.int .i64 d) ∧ Below w.heap.size w w' := hd ▸ rdigestA a A c w hk h

set_option maxRecDepth 100000 in
set_option maxHeartbeats 1000000 in
theorem rFollow_e (a : Alr) (A : Option Addr) (c : Nat) (t cn co g : Int) (l : List Int) (D : Option Addr) (dc : Nat) (k : Int) (w : World) (hk : (k == 0) = false) (hn : nextE a t = k) (h : AIn w a A c) :
    Calls Tryd.prog 18 #[a.val A c, .int .i64 t, .agg #[.int .i64 cn, .int .i64 co], .int .i64 g, .slice D l.length dc] w (OwnT w.heap.size Al.zero k w) := by
  have hk' : (k != 0) = true := by rw [bne, hk]; rfl
  have HN := Lib.hid hn
  have HS := Lib.hid h
  clear hn h
  go_enter Tryd.func18, Tryd.ntmps18
  go_wp2_with fail
  refine (rnext_is a A c t k _ HN.out (HS.out.below (by (repeat (first | exact Below.refl _ _ | assumption | refine below_drewN ?_ _ | refine Below.drew ?_ | refine Below.setCell ?_ (by first | omega | (simp; done) | (simp; omega)) _ | refine Below.alloc ?_ (by first | omega | (simp; done) | (simp; omega)) _))))).mono ?_
  rintro e w1 ⟨rfl, hb⟩
  obtain ⟨hcw1, hfw1⟩ := bcell hb
  have Hw1 := Lib.hid ((show Below w.heap.size w _ from (by repeat (first | exact Below.refl _ _ | assumption | refine below_drewN ?_ _ | refine Below.drew ?_ | refine Below.setCell ?_ (by first | omega | (simp; done) | (simp; omega)) _ | refine Below.alloc ?_ (by first | omega | (simp; done) | (simp; omega)) _))).trans (hb.mono (by first | omega | (simp; done) | (simp; omega))))
  have hzw1 := hb.size
  try simp at hzw1
  clear hb
  have hz3 : w.heap.size + 1 + 1 < w1.heap.size := by omega
  go_wp2_with fail
  refine finCells (w := w1) (w.heap.size + 1 + 1) (Al.zero.lst none 0) (.tuple #[Al.zero.val none 0, .int .i64 k]) rfl ?_ ?_ (show OwnT w.heap.size Al.zero k w _ _ from ⟨none, 0, rfl, zero_row _ _, ?_⟩)
  · intro W hW
    have r0 := hW 0 (by simp)
    have r1 := hW 1 (by simp)
    have r2 := hW 2 (by simp)
    have r3 := hW 3 (by simp)
    have r4 := hW 4 (by simp)
    have r5 := hW 5 (by simp)
    have r6 := hW 6 (by simp)
    have r7 := hW 7 (by simp)
    have r8 := hW 8 (by simp)
    clear hW
    simp only [List.getElem_cons_zero, List.getElem_cons_succ] at r0 r1 r2 r3 r4 r5 r6 r7 r8
    simp [results, Tryd.results18, go_sem, r0, r1, r2, r3, r4, r5, r6, r7, r8]
  · refine lt9 ?_
    simp [go_sem, hcw1]
  · exact below_setCells (by omega) _ _ _ _ Hw1.out

set_option maxRecDepth 100000 in
set_option maxHeartbeats 2000000 in
theorem rFollow_n (a : Alr) (A : Option Addr) (c : Nat) (t cn co g : Int) (l : List Int) (D : Option Addr) (dc : Nat) (d : Int) (x : Alr) (k : Int) (w : World) (hn : nextE a t = 0) (hd : digA a = d) (hok : okA a = true) (h : AIn w a A c) (hv : RvalSays ⟨a.ev, a.ver + 1, t, cn, co, g, l, false, d⟩ D dc x k w) :
    Calls Tryd.prog 18 #[a.val A c, .int .i64 t, .agg #[.int .i64 cn, .int .i64 co], .int .i64 g, .slice D l.length dc] w (OwnT w.heap.size x k w) := by
  have HN := Lib.hid hn
  have HS := Lib.hid h
  have HD := Lib.hid hd
  have HK := Lib.hid hok
  have hg : 0 ≤ a.ver ∧ a.ver ≤ 2147483647 := (okA_good hok).ver
  have hwr : IntKind.i64.wrap (a.ver + 1) = a.ver + 1 := IntWalk.i64_in _ (by omega)
  clear hn h hd hok
  go_enter Tryd.func18, Tryd.ntmps18
  go_wp2_with fail
  refine (rnext_is a A c t 0 _ HN.out (HS.out.below (by (repeat (first | exact Below.refl _ _ | assumption | refine below_drewN ?_ _ | refine Below.drew ?_ | refine Below.setCell ?_ (by first | omega | (simp; done) | (simp; omega)) _ | refine Below.alloc ?_ (by first | omega | (simp; done) | (simp; omega)) _))))).mono ?_
  rintro e w1 ⟨rfl, hb⟩
  obtain ⟨hcw1, hfw1⟩ := bcell hb
  have Hw1 := Lib.hid ((show Below w.heap.size w _ from (by repeat (first | exact Below.refl _ _ | assumption | refine below_drewN ?_ _ | refine Below.drew ?_ | refine Below.setCell ?_ (by first | omega | (simp; done) | (simp; omega)) _ | refine Below.alloc ?_ (by first | omega | (simp; done) | (simp; omega)) _))).trans (hb.mono (by first | omega | (simp; done) | (simp; omega))))
  have hzw1 := hb.size
  try simp at hzw1
  clear hb
  have hz3 : w.heap.size + 1 + 1 < w1.heap.size := by omega
  have hz4 : w.heap.size < w1.heap.size := by omega
  have x0 : w1.cell? ⟨w.heap.size, 0, none⟩ = some (.string a.ev) := by rw [hcw1 _ _ (by simp; omega)]; simp [go_sem]
  have x1 : w1.cell? ⟨w.heap.size, 1, none⟩ = some (.int .i64 a.ver) := by rw [hcw1 _ _ (by simp; omega)]; simp [go_sem]
  have x2 : w1.cell? ⟨w.heap.size, 2, none⟩ = some (.int .i64 a.tm) := by rw [hcw1 _ _ (by simp; omega)]; simp [go_sem]
  have x3 : w1.cell? ⟨w.heap.size, 3, none⟩ = some (.int .i64 a.n) := by rw [hcw1 _ _ (by simp; omega)]; simp [go_sem]
  have x4 : w1.cell? ⟨w.heap.size, 4, none⟩ = some (.int .i64 a.of) := by rw [hcw1 _ _ (by simp; omega)]; simp [go_sem]
  have x5 : w1.cell? ⟨w.heap.size, 5, none⟩ = some (.int .i64 a.grid) := by rw [hcw1 _ _ (by simp; omega)]; simp [go_sem]
  have x6 : w1.cell? ⟨w.heap.size, 6, none⟩ = some (.slice A a.cells.length c) := by rw [hcw1 _ _ (by simp; omega)]; simp [go_sem]
  have x7 : w1.cell? ⟨w.heap.size, 7, none⟩ = some (.bool a.wd) := by rw [hcw1 _ _ (by simp; omega)]; simp [go_sem]
  have x8 : w1.cell? ⟨w.heap.size, 8, none⟩ = some (.int .i64 a.before) := by rw [hcw1 _ _ (by simp; omega)]; simp [go_sem]
  have x9 : w1.cell? ⟨w.heap.size + 1, 0, none⟩ = some (.int .i64 cn) := by rw [hcw1 _ _ (by simp)]; simp [go_sem]
  have x10 : w1.cell? ⟨w.heap.size + 1, 1, none⟩ = some (.int .i64 co) := by rw [hcw1 _ _ (by simp)]; simp [go_sem]
  go_wp2_with fail
  have l1 : w.heap.size + 1 + 1 < w.heap.size + 1 + 1 + 1 := by omega
  have n1 : w.heap.size + 1 + 1 ≠ w.heap.size := by omega
  have n2 : w.heap.size ≠ w.heap.size + 1 + 1 := by omega
  go_region_held3 (fun w' => w'.cell? ⟨w.heap.size, 0, none⟩ = some (.string a.ev) ∧ w'.cell? ⟨w.heap.size, 1, none⟩ = some (.int .i64 a.ver) ∧ w'.cell? ⟨w.heap.size, 2, none⟩ = some (.int .i64 a.tm) ∧ w'.cell? ⟨w.heap.size, 3, none⟩ = some (.int .i64 a.n) ∧ w'.cell? ⟨w.heap.size, 4, none⟩ = some (.int .i64 a.of) ∧ w'.cell? ⟨w.heap.size, 5, none⟩ = some (.int .i64 a.grid) ∧ w'.cell? ⟨w.heap.size, 6, none⟩ = some (.slice A a.cells.length c) ∧ w'.cell? ⟨w.heap.size, 7, none⟩ = some (.bool a.wd) ∧ w'.cell? ⟨w.heap.size, 8, none⟩ = some (.int .i64 a.before) ∧ w'.cell? ⟨w.heap.size + 1, 0, none⟩ = some (.int .i64 cn) ∧ w'.cell? ⟨w.heap.size + 1, 1, none⟩ = some (.int .i64 co))
    (first | with_reducible exact ⟨z0, z1, z2, z3, z4, z5, z6, z7, z8, z9, z10⟩ | with_reducible exact ⟨y0, y1, y2, y3, y4, y5, y6, y7, y8, y9, y10⟩ | with_reducible exact ⟨x0, x1, x2, x3, x4, x5, x6, x7, x8, x9, x10⟩ | go_keep)
    (first
      | ((go_at_call 57; refine (rdigest_is a A c d _ HD.out HK.out (HS.out.below (by repeat (first | exact Below.refl _ _ | exact (Hw1).out | refine below_drewN ?_ _ | refine Below.drew ?_ | refine Below.setCell ?_ (by first | omega | (simp; done) | (simp; omega)) _ | refine Below.alloc ?_ (by first | omega | (simp; done) | (simp; omega)) _)))).mono ?_; rintro e w3 ⟨rfl, hb3⟩; obtain ⟨hcx3, hfx3⟩ := bcell hb3; have hcw3 : ∀ b o, b < w1.heap.size → w3.cell? ⟨b, o, none⟩ = w1.cell? ⟨b, o, none⟩ := hcx3; have hfw3 : ∀ b o, b < w1.heap.size → w3.frozen? ⟨b, o, none⟩ = w1.frozen? ⟨b, o, none⟩ := hfx3; clear hcx3 hfx3; have hB3 : Below w.heap.size w w3 := Below.trans (by repeat (first | exact Below.refl _ _ | exact (Hw1).out | refine below_drewN ?_ _ | refine Below.drew ?_ | refine Below.setCell ?_ (by first | omega | (simp; done) | (simp; omega)) _ | refine Below.alloc ?_ (by first | omega | (simp; done) | (simp; omega)) _)) (hb3.mono (by first | omega | (simp; done) | (simp; omega))); have hz5 : w1.heap.size ≤ w3.heap.size := (by have := hb3.size; (try simp at this); omega); have l3 : w.heap.size + 1 + 1 < w3.heap.size := (by omega); have y0 := (hcw3 w.heap.size 0 (by first | omega | (simp; done) | (simp; omega))).trans x0; have y1 := (hcw3 w.heap.size 1 (by first | omega | (simp; done) | (simp; omega))).trans x1; have y2 := (hcw3 w.heap.size 2 (by first | omega | (simp; done) | (simp; omega))).trans x2; have y3 := (hcw3 w.heap.size 3 (by first | omega | (simp; done) | (simp; omega))).trans x3; have y4 := (hcw3 w.heap.size 4 (by first | omega | (simp; done) | (simp; omega))).trans x4; have y5 := (hcw3 w.heap.size 5 (by first | omega | (simp; done) | (simp; omega))).trans x5; have y6 := (hcw3 w.heap.size 6 (by first | omega | (simp; done) | (simp; omega))).trans x6; have y7 := (hcw3 w.heap.size 7 (by first | omega | (simp; done) | (simp; omega))).trans x7; have y8 := (hcw3 w.heap.size 8 (by first | omega | (simp; done) | (simp; omega))).trans x8; have y9 := (hcw3 (w.heap.size + 1) 0 (by first | omega | (simp; done) | (simp; omega))).trans x9; have y10 := (hcw3 (w.heap.size + 1) 1 (by first | omega | (simp; done) | (simp; omega))).trans x10))
      | ((go_at_call 53; refine (hv _ (by (repeat (first | exact Below.refl _ _ | assumption | refine below_drewN ?_ _ | refine Below.drew ?_ | refine Below.setCell ?_ (by first | omega | (simp; done) | (simp; omega)) _ | refine Below.alloc ?_ (by first | omega | (simp; done) | (simp; omega)) _)))).mono ?_; rintro e w4 ⟨A', c', rfl, hown, hb4⟩; obtain ⟨hcw4, hfw4⟩ := bcell hb4; have hB4 : Below w.heap.size w w4 := Below.trans (by (repeat (first | exact Below.refl _ _ | assumption | refine below_drewN ?_ _ | refine Below.drew ?_ | refine Below.setCell ?_ (by first | omega | (simp; done) | (simp; omega)) _ | refine Below.alloc ?_ (by first | omega | (simp; done) | (simp; omega)) _))) (hb4.mono (by first | omega | (simp; done) | (simp; omega))); have hz6 : w3.heap.size ≤ w4.heap.size := hb4.size; have z0 := (hcw4 w.heap.size 0 (by first | omega | (simp; done) | (simp; omega))).trans y0; have z1 := (hcw4 w.heap.size 1 (by first | omega | (simp; done) | (simp; omega))).trans y1; have z2 := (hcw4 w.heap.size 2 (by first | omega | (simp; done) | (simp; omega))).trans y2; have z3 := (hcw4 w.heap.size 3 (by first | omega | (simp; done) | (simp; omega))).trans y3; have z4 := (hcw4 w.heap.size 4 (by first | omega | (simp; done) | (simp; omega))).trans y4; have z5 := (hcw4 w.heap.size 5 (by first | omega | (simp; done) | (simp; omega))).trans y5; have z6 := (hcw4 w.heap.size 6 (by first | omega | (simp; done) | (simp; omega))).trans y6; have z7 := (hcw4 w.heap.size 7 (by first | omega | (simp; done) | (simp; omega))).trans y7; have z8 := (hcw4 w.heap.size 8 (by first | omega | (simp; done) | (simp; omega))).trans y8; have z9 := (hcw4 (w.heap.size + 1) 0 (by first | omega | (simp; done) | (simp; omega))).trans y9; have z10 := (hcw4 (w.heap.size + 1) 1 (by first | omega | (simp; done) | (simp; omega))).trans y10)))
  go_wp2_with fail
  have r4 : ∀ j, j < 9 → (w4.cell? ⟨w.heap.size + 1 + 1, j, none⟩).isSome = true := by
    refine lt9 ?_
    simp [go_sem, hcw4, hcw3, hcw1, l3, hz3, l1]
  refine finCells (w := w4) (w.heap.size + 1 + 1) (x.lst A' c') (.tuple #[x.val A' c', .int .i64 k]) rfl ?_ r4 (show OwnT w.heap.size x k w _ _ from ⟨A', c', rfl, ?_, ?_⟩)
  · intro W hW
    have r0 := hW 0 (by simp)
    have r1 := hW 1 (by simp)
    have r2 := hW 2 (by simp)
    have r3 := hW 3 (by simp)
    have r4 := hW 4 (by simp)
    have r5 := hW 5 (by simp)
    have r6 := hW 6 (by simp)
    have r7 := hW 7 (by simp)
    have r8 := hW 8 (by simp)
    clear hW
    simp only [List.getElem_cons_zero, List.getElem_cons_succ] at r0 r1 r2 r3 r4 r5 r6 r7 r8
    simp [results, Tryd.results18, go_sem, r0, r1, r2, r3, r4, r5, r6, r7, r8]
  · exact own_more (base := w3.heap.size) (own_setCells (by omega) _ _ _ hown) (by omega)
  · exact below_setCells (by omega) _ _ _ _ hB4

set_option maxRecDepth 100000 in
set_option maxHeartbeats 1000000 in
theorem rWithdraw_e (a : Alr) (A : Option Addr) (c : Nat) (t : Int) (k : Int) (w : World) (hk : (k == 0) = false) (hn : nextE a t = k) (h : AIn w a A c) :
    Calls Tryd.prog 21 #[a.val A c, .int .i64 t] w (OwnT w.heap.size Al.zero k w) := by
  have hk' : (k != 0) = true := by rw [bne, hk]; rfl
  have HN := Lib.hid hn
  have HS := Lib.hid h
  clear hn h
  go_enter Tryd.func21, Tryd.ntmps21
  go_wp2_with fail
  refine (rnext_is a A c t k _ HN.out (HS.out.below (by (repeat (first | exact Below.refl _ _ | assumption | refine below_drewN ?_ _ | refine Below.drew ?_ | refine Below.setCell ?_ (by first | omega | (simp; done) | (simp; omega)) _ | refine Below.alloc ?_ (by first | omega | (simp; done) | (simp; omega)) _))))).mono ?_
  rintro e w1 ⟨rfl, hb⟩
  obtain ⟨hcw1, hfw1⟩ := bcell hb
  have Hw1 := Lib.hid ((show Below w.heap.size w _ from (by repeat (first | exact Below.refl _ _ | assumption | refine below_drewN ?_ _ | refine Below.drew ?_ | refine Below.setCell ?_ (by first | omega | (simp; done) | (simp; omega)) _ | refine Below.alloc ?_ (by first | omega | (simp; done) | (simp; omega)) _))).trans (hb.mono (by first | omega | (simp; done) | (simp; omega))))
  have hzw1 := hb.size
  try simp at hzw1
  clear hb
  have hz3 : w.heap.size + 1 < w1.heap.size := by omega
  go_wp2_with fail
  refine finCells (w := w1) (w.heap.size + 1) (Al.zero.lst none 0) (.tuple #[Al.zero.val none 0, .int .i64 k]) rfl ?_ ?_ (show OwnT w.heap.size Al.zero k w _ _ from ⟨none, 0, rfl, zero_row _ _, ?_⟩)
  · intro W hW
    have r0 := hW 0 (by simp)
    have r1 := hW 1 (by simp)
    have r2 := hW 2 (by simp)
    have r3 := hW 3 (by simp)
    have r4 := hW 4 (by simp)
    have r5 := hW 5 (by simp)
    have r6 := hW 6 (by simp)
    have r7 := hW 7 (by simp)
    have r8 := hW 8 (by simp)
    clear hW
    simp only [List.getElem_cons_zero, List.getElem_cons_succ] at r0 r1 r2 r3 r4 r5 r6 r7 r8
    simp [results, Tryd.results21, go_sem, r0, r1, r2, r3, r4, r5, r6, r7, r8]
  · refine lt9 ?_
    simp [go_sem, hcw1]
  · exact below_setCells (by omega) _ _ _ _ Hw1.out

set_option maxRecDepth 100000 in
set_option maxHeartbeats 2000000 in
theorem rWithdraw_n (a : Alr) (A : Option Addr) (c : Nat) (t : Int) (d : Int) (x : Alr) (k : Int) (w : World) (hn : nextE a t = 0) (hd : digA a = d) (hok : okA a = true) (h : AIn w a A c) (hv : RvalSays ⟨a.ev, a.ver + 1, t, a.n, a.of, a.grid, [], true, d⟩ none 0 x k w) :
    Calls Tryd.prog 21 #[a.val A c, .int .i64 t] w (OwnT w.heap.size x k w) := by
  have HN := Lib.hid hn
  have HS := Lib.hid h
  have HD := Lib.hid hd
  have HK := Lib.hid hok
  have hg : 0 ≤ a.ver ∧ a.ver ≤ 2147483647 := (okA_good hok).ver
  have hwr : IntKind.i64.wrap (a.ver + 1) = a.ver + 1 := IntWalk.i64_in _ (by omega)
  clear hn h hd hok
  go_enter Tryd.func21, Tryd.ntmps21
  go_wp2_with fail
  refine (rnext_is a A c t 0 _ HN.out (HS.out.below (by (repeat (first | exact Below.refl _ _ | assumption | refine below_drewN ?_ _ | refine Below.drew ?_ | refine Below.setCell ?_ (by first | omega | (simp; done) | (simp; omega)) _ | refine Below.alloc ?_ (by first | omega | (simp; done) | (simp; omega)) _))))).mono ?_
  rintro e w1 ⟨rfl, hb⟩
  obtain ⟨hcw1, hfw1⟩ := bcell hb
  have Hw1 := Lib.hid ((show Below w.heap.size w _ from (by repeat (first | exact Below.refl _ _ | assumption | refine below_drewN ?_ _ | refine Below.drew ?_ | refine Below.setCell ?_ (by first | omega | (simp; done) | (simp; omega)) _ | refine Below.alloc ?_ (by first | omega | (simp; done) | (simp; omega)) _))).trans (hb.mono (by first | omega | (simp; done) | (simp; omega))))
  have hzw1 := hb.size
  try simp at hzw1
  clear hb
  have hz3 : w.heap.size + 1 < w1.heap.size := by omega
  have hz4 : w.heap.size < w1.heap.size := by omega
  have x0 : w1.cell? ⟨w.heap.size, 0, none⟩ = some (.string a.ev) := by rw [hcw1 _ _ (by simp; omega)]; simp [go_sem]
  have x1 : w1.cell? ⟨w.heap.size, 1, none⟩ = some (.int .i64 a.ver) := by rw [hcw1 _ _ (by simp; omega)]; simp [go_sem]
  have x2 : w1.cell? ⟨w.heap.size, 2, none⟩ = some (.int .i64 a.tm) := by rw [hcw1 _ _ (by simp; omega)]; simp [go_sem]
  have x3 : w1.cell? ⟨w.heap.size, 3, none⟩ = some (.int .i64 a.n) := by rw [hcw1 _ _ (by simp; omega)]; simp [go_sem]
  have x4 : w1.cell? ⟨w.heap.size, 4, none⟩ = some (.int .i64 a.of) := by rw [hcw1 _ _ (by simp; omega)]; simp [go_sem]
  have x5 : w1.cell? ⟨w.heap.size, 5, none⟩ = some (.int .i64 a.grid) := by rw [hcw1 _ _ (by simp; omega)]; simp [go_sem]
  have x6 : w1.cell? ⟨w.heap.size, 6, none⟩ = some (.slice A a.cells.length c) := by rw [hcw1 _ _ (by simp; omega)]; simp [go_sem]
  have x7 : w1.cell? ⟨w.heap.size, 7, none⟩ = some (.bool a.wd) := by rw [hcw1 _ _ (by simp; omega)]; simp [go_sem]
  have x8 : w1.cell? ⟨w.heap.size, 8, none⟩ = some (.int .i64 a.before) := by rw [hcw1 _ _ (by simp; omega)]; simp [go_sem]
  go_wp2_with fail
  have l1 : w.heap.size + 1 < w.heap.size + 1 + 1 := by omega
  have n1 : w.heap.size + 1 ≠ w.heap.size := by omega
  have n2 : w.heap.size ≠ w.heap.size + 1 := by omega
  go_region_held3 (fun w' => w'.cell? ⟨w.heap.size, 0, none⟩ = some (.string a.ev) ∧ w'.cell? ⟨w.heap.size, 1, none⟩ = some (.int .i64 a.ver) ∧ w'.cell? ⟨w.heap.size, 2, none⟩ = some (.int .i64 a.tm) ∧ w'.cell? ⟨w.heap.size, 3, none⟩ = some (.int .i64 a.n) ∧ w'.cell? ⟨w.heap.size, 4, none⟩ = some (.int .i64 a.of) ∧ w'.cell? ⟨w.heap.size, 5, none⟩ = some (.int .i64 a.grid) ∧ w'.cell? ⟨w.heap.size, 6, none⟩ = some (.slice A a.cells.length c) ∧ w'.cell? ⟨w.heap.size, 7, none⟩ = some (.bool a.wd) ∧ w'.cell? ⟨w.heap.size, 8, none⟩ = some (.int .i64 a.before))
    (first | with_reducible exact ⟨z0, z1, z2, z3, z4, z5, z6, z7, z8⟩ | with_reducible exact ⟨y0, y1, y2, y3, y4, y5, y6, y7, y8⟩ | with_reducible exact ⟨x0, x1, x2, x3, x4, x5, x6, x7, x8⟩ | go_keep)
    (first
      | ((go_at_call 57; refine (rdigest_is a A c d _ HD.out HK.out (HS.out.below (by repeat (first | exact Below.refl _ _ | exact (Hw1).out | refine below_drewN ?_ _ | refine Below.drew ?_ | refine Below.setCell ?_ (by first | omega | (simp; done) | (simp; omega)) _ | refine Below.alloc ?_ (by first | omega | (simp; done) | (simp; omega)) _)))).mono ?_; rintro e w3 ⟨rfl, hb3⟩; obtain ⟨hcx3, hfx3⟩ := bcell hb3; have hcw3 : ∀ b o, b < w1.heap.size → w3.cell? ⟨b, o, none⟩ = w1.cell? ⟨b, o, none⟩ := hcx3; have hfw3 : ∀ b o, b < w1.heap.size → w3.frozen? ⟨b, o, none⟩ = w1.frozen? ⟨b, o, none⟩ := hfx3; clear hcx3 hfx3; have hB3 : Below w.heap.size w w3 := Below.trans (by repeat (first | exact Below.refl _ _ | exact (Hw1).out | refine below_drewN ?_ _ | refine Below.drew ?_ | refine Below.setCell ?_ (by first | omega | (simp; done) | (simp; omega)) _ | refine Below.alloc ?_ (by first | omega | (simp; done) | (simp; omega)) _)) (hb3.mono (by first | omega | (simp; done) | (simp; omega))); have hz5 : w1.heap.size ≤ w3.heap.size := (by have := hb3.size; (try simp at this); omega); have l3 : w.heap.size + 1 < w3.heap.size := (by omega); have y0 := (hcw3 w.heap.size 0 (by first | omega | (simp; done) | (simp; omega))).trans x0; have y1 := (hcw3 w.heap.size 1 (by first | omega | (simp; done) | (simp; omega))).trans x1; have y2 := (hcw3 w.heap.size 2 (by first | omega | (simp; done) | (simp; omega))).trans x2; have y3 := (hcw3 w.heap.size 3 (by first | omega | (simp; done) | (simp; omega))).trans x3; have y4 := (hcw3 w.heap.size 4 (by first | omega | (simp; done) | (simp; omega))).trans x4; have y5 := (hcw3 w.heap.size 5 (by first | omega | (simp; done) | (simp; omega))).trans x5; have y6 := (hcw3 w.heap.size 6 (by first | omega | (simp; done) | (simp; omega))).trans x6; have y7 := (hcw3 w.heap.size 7 (by first | omega | (simp; done) | (simp; omega))).trans x7; have y8 := (hcw3 w.heap.size 8 (by first | omega | (simp; done) | (simp; omega))).trans x8))
      | ((go_at_call 53; refine (hv _ (by (repeat (first | exact Below.refl _ _ | assumption | refine below_drewN ?_ _ | refine Below.drew ?_ | refine Below.setCell ?_ (by first | omega | (simp; done) | (simp; omega)) _ | refine Below.alloc ?_ (by first | omega | (simp; done) | (simp; omega)) _)))).mono ?_; rintro e w4 ⟨A', c', rfl, hown, hb4⟩; obtain ⟨hcw4, hfw4⟩ := bcell hb4; have hB4 : Below w.heap.size w w4 := Below.trans (by (repeat (first | exact Below.refl _ _ | assumption | refine below_drewN ?_ _ | refine Below.drew ?_ | refine Below.setCell ?_ (by first | omega | (simp; done) | (simp; omega)) _ | refine Below.alloc ?_ (by first | omega | (simp; done) | (simp; omega)) _))) (hb4.mono (by first | omega | (simp; done) | (simp; omega))); have hz6 : w3.heap.size ≤ w4.heap.size := hb4.size; have z0 := (hcw4 w.heap.size 0 (by first | omega | (simp; done) | (simp; omega))).trans y0; have z1 := (hcw4 w.heap.size 1 (by first | omega | (simp; done) | (simp; omega))).trans y1; have z2 := (hcw4 w.heap.size 2 (by first | omega | (simp; done) | (simp; omega))).trans y2; have z3 := (hcw4 w.heap.size 3 (by first | omega | (simp; done) | (simp; omega))).trans y3; have z4 := (hcw4 w.heap.size 4 (by first | omega | (simp; done) | (simp; omega))).trans y4; have z5 := (hcw4 w.heap.size 5 (by first | omega | (simp; done) | (simp; omega))).trans y5; have z6 := (hcw4 w.heap.size 6 (by first | omega | (simp; done) | (simp; omega))).trans y6; have z7 := (hcw4 w.heap.size 7 (by first | omega | (simp; done) | (simp; omega))).trans y7; have z8 := (hcw4 w.heap.size 8 (by first | omega | (simp; done) | (simp; omega))).trans y8)))
  go_wp2_with fail
  have r4 : ∀ j, j < 9 → (w4.cell? ⟨w.heap.size + 1, j, none⟩).isSome = true := by
    refine lt9 ?_
    simp [go_sem, hcw4, hcw3, hcw1, l3, hz3, l1]
  refine finCells (w := w4) (w.heap.size + 1) (x.lst A' c') (.tuple #[x.val A' c', .int .i64 k]) rfl ?_ r4 (show OwnT w.heap.size x k w _ _ from ⟨A', c', rfl, ?_, ?_⟩)
  · intro W hW
    have r0 := hW 0 (by simp)
    have r1 := hW 1 (by simp)
    have r2 := hW 2 (by simp)
    have r3 := hW 3 (by simp)
    have r4 := hW 4 (by simp)
    have r5 := hW 5 (by simp)
    have r6 := hW 6 (by simp)
    have r7 := hW 7 (by simp)
    have r8 := hW 8 (by simp)
    clear hW
    simp only [List.getElem_cons_zero, List.getElem_cons_succ] at r0 r1 r2 r3 r4 r5 r6 r7 r8
    simp [results, Tryd.results21, go_sem, r0, r1, r2, r3, r4, r5, r6, r7, r8]
  · exact own_more (base := w3.heap.size) (own_setCells (by omega) _ _ _ hown) (by omega)
  · exact below_setCells (by omega) _ _ _ _ hB4
end Go.Proofs.YtohfofecbdfkgaaDoor
