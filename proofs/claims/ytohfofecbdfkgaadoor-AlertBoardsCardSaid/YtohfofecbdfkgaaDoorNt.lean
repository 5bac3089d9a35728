/-
  The walk of notice: a notice of its own memory.
-/
import Derived.Test.YtohfofecbdfkgaaDoorCl
import Derived.Deep.RegionHeld3
import Derived.Deep.DrawnRows
namespace Go.Proofs.YtohfofecbdfkgaaDoor
open Go.RowKit Al
attribute [local go_sem ↓] Go.wp_at_zero Go.wp_at_succ

/-- A notice whose cells and signatures lie in memory of the call's own. -/
def OwnN (n : Ntc) (w : World) (e : Ending) (w' : World) : Prop := ∃ A c S sc, e = .returned (n.val A c S sc) ∧ ARow w' w.heap.size n.a A c ∧ w'.ownsRow w.heap.size 115 2 (.slice S n.sg.length sc) n.sg.length (keyCells n.sg) ∧ Below w.heap.size w w'

set_option maxRecDepth 100000 in
set_option maxHeartbeats 2000000 in
theorem notice_ (n : Ntc) (A : Option Addr) (c : Nat) (S : Option Addr) (sc : Nat) (w : World) (h : NIn w n A c S sc) (hb : n.a.cells.length * 8 ≤ 140737488355328) (hb2 : n.sg.length * 16 ≤ 140737488355328) :
    Calls Tryd.prog 75 #[n.val A c S sc] w (OwnN n w) := by
  have HN := Lib.hid h
  clear h
  go_enter Tryd.func75, Tryd.ntmps75
  go_wp2_with fail
  go_region_held3 (fun w' => w'.cell? ⟨w.heap.size, 0, none⟩ = some (.string n.a.ev) ∧ w'.cell? ⟨w.heap.size, 1, none⟩ = some (.int .i64 n.a.ver) ∧ w'.cell? ⟨w.heap.size, 2, none⟩ = some (.int .i64 n.a.tm) ∧ w'.cell? ⟨w.heap.size, 3, none⟩ = some (.int .i64 n.a.n) ∧ w'.cell? ⟨w.heap.size, 4, none⟩ = some (.int .i64 n.a.of) ∧ w'.cell? ⟨w.heap.size, 5, none⟩ = some (.int .i64 n.a.grid) ∧ w'.cell? ⟨w.heap.size, 6, none⟩ = some (.slice A n.a.cells.length c) ∧ w'.cell? ⟨w.heap.size, 7, none⟩ = some (.bool n.a.wd) ∧ w'.cell? ⟨w.heap.size, 8, none⟩ = some (.int .i64 n.a.before) ∧ w'.cell? ⟨w.heap.size, 9, none⟩ = some (.slice S n.sg.length sc)) (first | go_keep | (refine ⟨?_, ?_, ?_, ?_, ?_, ?_, ?_, ?_, ?_, ?_⟩ <;> first | (rw [hcw3 _ _ (by simp; omega)]; simp [go_sem]; done) | (rw [hcw4 _ _ (by omega), hcw3 _ _ (by simp; omega)]; simp [go_sem]; done)))
    (first
      | ((go_at_call 73; refine (copied_ n.a A c _ (HN.out.al.below (by (repeat (first | exact Below.refl _ _ | assumption | refine below_drewN ?_ _ | refine Below.drew ?_ | refine Below.setCell ?_ (by first | omega | (simp; done) | (simp; omega)) _ | refine Below.alloc ?_ (by first | omega | (simp; done) | (simp; omega)) _)))) hb).mono ?_; rintro e w3 ⟨A', c', rfl, hown3, hbw3⟩; obtain ⟨hcw3, hfw3⟩ := bcell hbw3; have hB3 : Below w.heap.size w w3 := Below.trans (by (repeat (first | exact Below.refl _ _ | assumption | refine below_drewN ?_ _ | refine Below.drew ?_ | refine Below.setCell ?_ (by first | omega | (simp; done) | (simp; omega)) _ | refine Below.alloc ?_ (by first | omega | (simp; done) | (simp; omega)) _))) (hbw3.mono (by first | omega | (simp; omega))); have hz3 : w.heap.size + 1 < w3.heap.size := (by have := hbw3.size; (try simp at this); omega)))
      | ((go_at_call 86; refine (CloneSigs_ n.sg S sc _ (HN.out.below (by (repeat (first | exact Below.refl _ _ | assumption | refine below_drewN ?_ _ | refine Below.drew ?_ | refine Below.setCell ?_ (by first | omega | (simp; done) | (simp; omega)) _ | refine Below.alloc ?_ (by first | omega | (simp; done) | (simp; omega)) _)))).sl hb2).mono ?_; rintro e w4 ⟨S', sc', rfl, hown4, hbw4⟩; obtain ⟨hcw4, hfw4⟩ := bcell hbw4; have hB4 : Below w.heap.size w w4 := Below.trans (by (repeat (first | exact Below.refl _ _ | assumption | refine below_drewN ?_ _ | refine Below.drew ?_ | refine Below.setCell ?_ (by first | omega | (simp; done) | (simp; omega)) _ | refine Below.alloc ?_ (by first | omega | (simp; done) | (simp; omega)) _))) (hbw4.mono (by first | omega | (simp; omega))); have hz4 : w.heap.size + 1 < w4.heap.size := (by have := hbw4.size; (try simp at this); omega))))
  go_wp2_with fail
  refine finCells (w := w4) (w.heap.size + 1) (ntL n.a A' c' S' n.sg.length sc') (n.val A' c' S' sc') rfl ?_ ?_ (show OwnN n w _ _ from ⟨A', c', S', sc', rfl, ?_, ?_, ?_⟩)
  · intro W hW
    have r0 := hW 0 (by simp)
    have r1 := hW 1 (by simp)
    have r2 := hW 2 (by simp)
    have r3 := hW 3 (by simp)
    have r4 := hW 4 (by simp)
    have r5 := hW 5 (by simp)
    have r6 := hW 6 (by simp)
    have r7 := hW 7 (by simp)
    have r8 := hW 8 (by simp)
    have r9 := hW 9 (by simp)
    clear hW
    simp only [List.getElem_cons_zero, List.getElem_cons_succ] at r0 r1 r2 r3 r4 r5 r6 r7 r8 r9
    simp [results, Tryd.results75, go_sem, r0, r1, r2, r3, r4, r5, r6, r7, r8, r9]
  · refine lt10 ?_
    simp [go_sem, hcw4, hcw3, hz3]
  · refine own_more (base := w.heap.size + 1 + 1) (own_setCells (by omega) _ _ _ (own_below ?_ (Nat.le_refl _) hbw4)) (by omega)
    have := hown3
    simp at this
    exact this
  · exact own_more (base := w3.heap.size) (own_setCells (by omega) _ _ _ hown4) (by omega)
  · exact below_setCells (by omega) _ _ _ _ hB4
end Go.Proofs.YtohfofecbdfkgaaDoor
