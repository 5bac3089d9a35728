/-
  The walks of the helpers of the laws: first, ring.
-/
import Derived.Test.YtohfofecbdfkgaaDoorDf
namespace Go.Proofs.YtohfofecbdfkgaaDoor
open Go.RowKit Al

/-- The alert of the chapter's examples. -/
def fstA : Alr := ⟨⟨#[115, 49]⟩, 1, 5, 1, 20, 1, [0, 3], false, 0⟩
set_option maxRecDepth 100000 in
theorem first_ (w : World) : Calls Tryd.prog 49 #[] w (OwnA fstA w) := by
  go_enter Tryd.func49, Tryd.ntmps49
  go_wp2_with fail
  refine bodyPost_ret (v := fstA.val (some ⟨w.heap.size + 1, 0, none⟩) 2) (by simp [results, Tryd.results49, go_sem, fstA]) rfl ⟨some ⟨w.heap.size + 1, 0, none⟩, 2, rfl, ?_, (by repeat (first | exact Below.refl _ _ | assumption | refine below_drewN ?_ _ | refine Below.drew ?_ | refine Below.setCell ?_ (by first | omega | (simp; done) | (simp; omega)) _ | refine Below.alloc ?_ (by first | omega | (simp; done) | (simp; omega)) _))⟩
  have h := World.ownsRow_lit (base := w.heap.size) (e := 3) (size := 1) (w.alloc (.cells #[.string ⟨#[115, 49]⟩, .int .i64 1, .int .i64 5, .int .i64 1, .int .i64 20, .int .i64 1, .slice (some ⟨w.heap.size + 1, 0, none⟩) 2 2, .bool false, .int .i64 0] 29)) #[.int .i64 0, .int .i64 3] 2 (by simp) (by decide) rfl
  simp at h
  exact h

/-- The keys of the chapter's examples, and their secrets. -/
def ringK : List (Int × Int) := [(33, 7), (35, 5), (15, 3)]
def ringS : List Int := [3, 5, 3]
/-- What ring hands back. -/
def RingT (w : World) (e : Ending) (w' : World) : Prop := ∃ K kc S sc, e = .returned (.tuple #[.slice K 3 kc, .slice S 3 sc]) ∧ w'.ownsRow w.heap.size 54 2 (.slice K 3 kc) 3 (keyCells ringK) ∧ w'.ownsRow w.heap.size 3 1 (.slice S 3 sc) 3 (ints ringS) ∧ Below w.heap.size w w'
set_option maxRecDepth 100000 in
theorem ring_ (w : World) : Calls Tryd.prog 50 #[] w (RingT w) := by
  go_enter Tryd.func50, Tryd.ntmps50
  go_wp2_with fail
  go_ret2
  have h1 := World.ownsRow_lit (base := w.heap.size) (e := 54) (size := 2) w #[.int .i64 33, .int .i64 7, .int .i64 35, .int .i64 5, .int .i64 15, .int .i64 3] 3 (Nat.le_refl _) (by decide) rfl
  have h2 := World.ownsRow_lit (base := w.heap.size) (e := 3) (size := 1) (w.alloc (.cells #[.int .i64 33, .int .i64 7, .int .i64 35, .int .i64 5, .int .i64 15, .int .i64 3] 54)) #[.int .i64 3, .int .i64 5, .int .i64 3] 3 (by simp) (by decide) rfl
  simp at h2
  exact ⟨some ⟨w.heap.size, 0, none⟩, 3, some ⟨w.heap.size + 1, 0, none⟩, 3, rfl, own_below h1 (Nat.le_refl _) ((Below.refl _ _).alloc (Nat.le_refl _) _), h2, (by repeat (first | exact Below.refl _ _ | assumption | refine below_drewN ?_ _ | refine Below.drew ?_ | refine Below.setCell ?_ (by first | omega | (simp; done) | (simp; omega)) _ | refine Below.alloc ?_ (by first | omega | (simp; done) | (simp; omega)) _))⟩
end Go.Proofs.YtohfofecbdfkgaaDoor
