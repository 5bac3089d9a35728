/-
  The walks of copied, drafted, next, Draft, Follow, Withdraw, Print, of the program.
-/
import Derived.Test.YtohfofecbdfkgaaDoorOw
namespace Go.Proofs.YtohfofecbdfkgaaDoor
open Go.RowKit Al

/-- The cells of an alert are a row of the call's own. -/
abbrev ARow (w : World) (base : Nat) (a : Alr) (A : Option Addr) (c : Nat) : Prop := w.ownsRow base 3 1 (.slice A a.cells.length c) a.cells.length (ints a.cells)
/-- An alert with cells in memory of the call's own. -/
def OwnA (a : Alr) (w : World) (e : Ending) (w' : World) : Prop := ∃ A c, e = .returned (a.val A c) ∧ ARow w' w.heap.size a A c ∧ Below w.heap.size w w'

/-- The cells of an alert. -/
@[reducible] def Al.Alr.lst (a : Alr) (A : Option Addr) (c : Nat) : List Value :=
  [.string a.ev, .int .i64 a.ver, .int .i64 a.tm, .int .i64 a.n, .int .i64 a.of, .int .i64 a.grid, .slice A a.cells.length c, .bool a.wd, .int .i64 a.before]
theorem below_setCells {n b : Nat} (hb : n ≤ b) : ∀ (vs : List Value) (o : Nat) (W w : World), Below n W w → Below n W (w.setCells b o vs)
  | [], _, _, _, h => h
  | v :: r, o, W, w, h => below_setCells hb r (o + 1) W _ (h.setCell (by simpa using hb) _)
theorem own_setCells {base e sz n b : Nat} {v : Value} {xs : List Value} (hb : b < base) : ∀ (vs : List Value) (o : Nat) (w : World), w.ownsRow base e sz v n xs → (w.setCells b o vs).ownsRow base e sz v n xs
  | [], _, _, h => h
  | u :: r, o, w, h => own_setCells hb r (o + 1) _ (ownsRow_setCell_below h (by simpa using hb) u)
/-- The end of a function whose result is written to a block of cells. -/
theorem finCells {P : Program} {fn : Func} {R : Ending → World → Prop} {a : Act} {w : World} (b : Nat) (vs : List Value) (v : Value) (hd : a.defers = [])
    (hres : ∀ W : World, (∀ j (hj : j < vs.length), W.cell? ⟨b, j, none⟩ = some vs[j]) → (results fn a.tmps).run P W = .ok v W)
    (his : ∀ j, j < vs.length → (w.cell? ⟨b, j, none⟩).isSome = true) (hR : R (.returned v) (w.setCells b 0 vs)) : bodyPost P fn R .ret a (w.setCells b 0 vs) :=
  bodyPost_ret (hres _ fun j hj => by have := World.cell?_setCells_in b vs 0 w (fun j hj => by rw [Nat.zero_add]; exact his j hj) j hj; rwa [Nat.zero_add] at this) hd hR
theorem lt9 {p : Nat → Prop} (h : p 0 ∧ p 1 ∧ p 2 ∧ p 3 ∧ p 4 ∧ p 5 ∧ p 6 ∧ p 7 ∧ p 8) : ∀ j, j < 9 → p j
  | 0, _ => h.1 | 1, _ => h.2.1 | 2, _ => h.2.2.1 | 3, _ => h.2.2.2.1 | 4, _ => h.2.2.2.2.1 | 5, _ => h.2.2.2.2.2.1 | 6, _ => h.2.2.2.2.2.2.1 | 7, _ => h.2.2.2.2.2.2.2.1 | 8, _ => h.2.2.2.2.2.2.2.2
  | n + 9, h' => absurd h' (by omega)

set_option maxRecDepth 100000 in
theorem copied_ (a : Alr) (A : Option Addr) (c : Nat) (w : World) (h : AIn w a A c) (hb : a.cells.length * 8 ≤ 140737488355328) :
    Calls Tryd.prog 73 #[a.val A c] w (OwnA a w) := by
  have HS := Lib.hid h
  clear h
  go_enter Tryd.func73, Tryd.ntmps73
  go_wp2_with fail
  refine (Clone_ a.cells A c _ (HS.out.below (by (repeat (first | exact Below.refl _ _ | assumption | refine below_drewN ?_ _ | refine Below.drew ?_ | refine Below.setCell ?_ (by first | omega | (simp; done) | (simp; omega)) _ | refine Below.alloc ?_ (by first | omega | (simp; done) | (simp; omega)) _)))).sl hb).mono ?_
  rintro e w1 ⟨A', c', rfl, hown, hbw⟩
  obtain ⟨hc1, hf1⟩ := bcell hbw
  have HB := Lib.hid ((show Below w.heap.size w _ from by (repeat (first | exact Below.refl _ _ | assumption | refine below_drewN ?_ _ | refine Below.drew ?_ | refine Below.setCell ?_ (by first | omega | (simp; done) | (simp; omega)) _ | refine Below.alloc ?_ (by first | omega | (simp; done) | (simp; omega)) _))).trans (hbw.mono (by first | omega | (simp; done) | (simp; omega))))
  have HO := Lib.hid hown
  have hz1 := hbw.size
  simp at hz1
  clear hbw hown
  have hz2 : w.heap.size < w1.heap.size := by omega
  have hz3 : w.heap.size + 1 < w1.heap.size := by omega
  have hset : ∀ u, (w1.setCell ⟨w.heap.size, 6, none⟩ u).cell? ⟨w.heap.size, 6, none⟩ = some u := fun u => World.cell?_setCell_same' _ _ _ (by rw [hc1 _ _ (by simp; omega)]; simp [go_sem])
  go_wp2_with fail
  have hO := HO.out
  simp only [World.alloc, Array.size_push] at hO
  refine finCells (w := w1.setCell ⟨w.heap.size, 6, none⟩ (.slice A' a.cells.length c')) (w.heap.size + 1) (a.lst A' c') (a.val A' c') rfl ?_ ?_ (show OwnA a w _ _ from ⟨A', c', rfl, ?_, ?_⟩)
  · intro W hW
    have r0 := hW 0 (by simp)
    have r1 := hW 1 (by simp)
    have r2 := hW 2 (by simp)
    have r3 := hW 3 (by simp)
    have r4 := hW 4 (by simp)
    have r5 := hW 5 (by simp)
    have r6 := hW 6 (by simp)
    have r7 := hW 7 (by simp)
    have r8 := hW 8 (by simp)
    clear hW
    simp only [List.getElem_cons_zero, List.getElem_cons_succ] at r0 r1 r2 r3 r4 r5 r6 r7 r8
    simp [results, Tryd.results73, go_sem, r0, r1, r2, r3, r4, r5, r6, r7, r8]
  · refine lt9 ?_
    simp [go_sem, hc1]
  · exact own_more (base := w.heap.size + 1 + 1) (own_setCells (by omega) _ _ _ (ownsRow_setCell_below hO (by show w.heap.size < w.heap.size + 1 + 1; omega) _)) (by omega)
  · exact below_setCells (by omega) _ _ _ _ (HB.out.setCell (by simp) _)
end Go.Proofs.YtohfofecbdfkgaaDoor
