/-
  An alert in a box of cells: how it is kept, and set.
-/
import Derived.Test.YtohfofecbdfkgaaGreatDoorU08
namespace Go.Proofs.YtohfofecbdfkgaaGreatDoor
open Go.RowKit Al
/-- An alert in a box. -/
structure Bxa (w : World) (B g : Nat) (x : Alr) (C : Option Addr) (c : Nat) : Prop where
  lo : B ≤ g
  lt : g < w.heap.size
  cs : ∀ j u, (x.lst C c)[j]? = some u → w.cell? ⟨g, j, none⟩ = some u
  fr : ∀ o, w.frozen? ⟨g, o, none⟩ = false
theorem Bxa.below {w w' : World} {B g : Nat} {x : Alr} {C : Option Addr} {c : Nat} (h : Bxa w B g x C c) (hb : Below w.heap.size w w') : Bxa w' B g x C c :=
  ⟨h.lo, Nat.lt_of_lt_of_le h.lt hb.size, fun j u hu => (hb.cell (p := ⟨g, j, none⟩) h.lt).trans (h.cs j u hu), fun o => (hb.frozen (p := ⟨g, o, none⟩) h.lt).trans (h.fr o)⟩
theorem Bxa.belowM {w w' : World} {B g m : Nat} {x : Alr} {C : Option Addr} {c : Nat} (h : Bxa w B g x C c) (hb : Below m w w') (hg : g < m) : Bxa w' B g x C c :=
  ⟨h.lo, Nat.lt_of_lt_of_le h.lt hb.size, fun j u hu => (hb.cell (p := ⟨g, j, none⟩) hg).trans (h.cs j u hu), fun o => (hb.frozen (p := ⟨g, o, none⟩) hg).trans (h.fr o)⟩
theorem Bxa.new {w0 w : World} (h : w0.heap.size ≤ w.heap.size) : Bxa (w.alloc (.cells (Al.zero.val none 0).cells 48)) w0.heap.size w.heap.size Al.zero none 0 :=
  ⟨h, by simp, fun j u hu => by simp [go_sem]; exact hu, fun o => by simp [go_sem]⟩
theorem nineC {P : Nat → Value → Prop} {a b c d e f g h i : Value} (h0 : P 0 a) (h1 : P 1 b) (h2 : P 2 c) (h3 : P 3 d) (h4 : P 4 e) (h5 : P 5 f) (h6 : P 6 g) (h7 : P 7 h) (h8 : P 8 i) : ∀ j u, ([a, b, c, d, e, f, g, h, i] : List Value)[j]? = some u → P j u := by
  intro j u hu
  rcases j with _ | _ | _ | _ | _ | _ | _ | _ | _ | j
  all_goals simp at hu
  all_goals subst hu
  all_goals assumption
theorem Bxa.store {W : World} {B g : Nat} {x : Alr} {C : Option Addr} {c : Nat} (h : Bxa W B g x C c) (y : Alr) (D : Option Addr) (d : Nat) :
    Bxa (((((((((W.setCell ⟨g, 0, none⟩ (.string y.ev)).setCell ⟨g, 1, none⟩ (.int .i64 y.ver)).setCell ⟨g, 2, none⟩ (.int .i64 y.tm)).setCell ⟨g, 3, none⟩ (.int .i64 y.n)).setCell ⟨g, 4, none⟩ (.int .i64 y.of)).setCell ⟨g, 5, none⟩ (.int .i64 y.grid)).setCell ⟨g, 6, none⟩ (.slice D y.cells.length d)).setCell ⟨g, 7, none⟩ (.bool y.wd)).setCell ⟨g, 8, none⟩ (.int .i64 y.before)) B g y D d := by
  have c0 := h.cs 0 _ rfl
  have c1 := h.cs 1 _ rfl
  have c2 := h.cs 2 _ rfl
  have c3 := h.cs 3 _ rfl
  have c4 := h.cs 4 _ rfl
  have c5 := h.cs 5 _ rfl
  have c6 := h.cs 6 _ rfl
  have c7 := h.cs 7 _ rfl
  have c8 := h.cs 8 _ rfl
  exact ⟨h.lo, by have := h.lt; simp; exact this, nineC (P := fun j u => World.cell? _ ⟨g, j, none⟩ = some u) (by simp [go_sem, c0]) (by simp [go_sem, c1]) (by simp [go_sem, c2]) (by simp [go_sem, c3]) (by simp [go_sem, c4]) (by simp [go_sem, c5]) (by simp [go_sem, c6]) (by simp [go_sem, c7]) (by simp [go_sem, c8]), fun o => by have := h.fr o; simp [go_sem, this]⟩
theorem Bxa.block {w w' : World} {B g : Nat} {x : Alr} {C : Option Addr} {c : Nat} (h : Bxa w B g x C c) (hb : w'.heap[g]? = w.heap[g]?) : Bxa w' B g x C c := by
  have h1 : g < w'.heap.size := by
    have h2 := Array.getElem?_eq_getElem h.lt
    rw [← hb] at h2
    exact (Array.getElem?_eq_some_iff.1 h2).1
  exact ⟨h.lo, h1, fun j u hu => (World.cell?_of_block (w := w) (a := ⟨g, j, none⟩) hb).trans (h.cs j u hu), fun o => (World.frozen?_of_block (w := w) (a := ⟨g, o, none⟩) hb).trans (h.fr o)⟩
theorem Bxa.set34 {W : World} {B g : Nat} {x y : Alr} {C : Option Addr} {c : Nat} (h : Bxa W B g x C c) (n of : Int) (hy : y = { x with n := n, of := of }) :
    Bxa ((W.setCell ⟨g, 3, none⟩ (.int .i64 n)).setCell ⟨g, 4, none⟩ (.int .i64 of)) B g y C c := by
  subst hy
  have c0 := h.cs 0 _ rfl
  have c1 := h.cs 1 _ rfl
  have c2 := h.cs 2 _ rfl
  have c3 := h.cs 3 _ rfl
  have c4 := h.cs 4 _ rfl
  have c5 := h.cs 5 _ rfl
  have c6 := h.cs 6 _ rfl
  have c7 := h.cs 7 _ rfl
  have c8 := h.cs 8 _ rfl
  exact ⟨h.lo, by have := h.lt; simp; exact this, nineC (P := fun j u => World.cell? _ ⟨g, j, none⟩ = some u) (by simp [go_sem, c0]) (by simp [go_sem, c1]) (by simp [go_sem, c2]) (by simp [go_sem, c3]) (by simp [go_sem, c4]) (by simp [go_sem, c5]) (by simp [go_sem, c6]) (by simp [go_sem, c7]) (by simp [go_sem, c8]), fun o => by have := h.fr o; simp [go_sem, this]⟩
theorem Bxa.set7 {W : World} {B g : Nat} {x y : Alr} {C : Option Addr} {c : Nat} (h : Bxa W B g x C c) (v : Bool) (hy : y = { x with wd := v }) : Bxa (W.setCell ⟨g, 7, none⟩ (.bool v)) B g y C c := by
  subst hy
  have c0 := h.cs 0 _ rfl
  have c1 := h.cs 1 _ rfl
  have c2 := h.cs 2 _ rfl
  have c3 := h.cs 3 _ rfl
  have c4 := h.cs 4 _ rfl
  have c5 := h.cs 5 _ rfl
  have c6 := h.cs 6 _ rfl
  have c7 := h.cs 7 _ rfl
  have c8 := h.cs 8 _ rfl
  exact ⟨h.lo, by have := h.lt; simp; exact this, nineC (P := fun j u => World.cell? _ ⟨g, j, none⟩ = some u) (by simp [go_sem, c0]) (by simp [go_sem, c1]) (by simp [go_sem, c2]) (by simp [go_sem, c3]) (by simp [go_sem, c4]) (by simp [go_sem, c5]) (by simp [go_sem, c6]) (by simp [go_sem, c7]) (by simp [go_sem, c8]), fun o => by have := h.fr o; simp [go_sem, this]⟩
theorem Bxa.set6 {W : World} {B g : Nat} {x y : Alr} {C D : Option Addr} {c d : Nat} (h : Bxa W B g x C c) (l : List Int) (hy : y = { x with cells := l }) : Bxa (W.setCell ⟨g, 6, none⟩ (.slice D l.length d)) B g y D d := by
  subst hy
  have c0 := h.cs 0 _ rfl
  have c1 := h.cs 1 _ rfl
  have c2 := h.cs 2 _ rfl
  have c3 := h.cs 3 _ rfl
  have c4 := h.cs 4 _ rfl
  have c5 := h.cs 5 _ rfl
  have c6 := h.cs 6 _ rfl
  have c7 := h.cs 7 _ rfl
  have c8 := h.cs 8 _ rfl
  exact ⟨h.lo, by have := h.lt; simp; exact this, nineC (P := fun j u => World.cell? _ ⟨g, j, none⟩ = some u) (by simp [go_sem, c0]) (by simp [go_sem, c1]) (by simp [go_sem, c2]) (by simp [go_sem, c3]) (by simp [go_sem, c4]) (by simp [go_sem, c5]) (by simp [go_sem, c6]) (by simp [go_sem, c7]) (by simp [go_sem, c8]), fun o => by have := h.fr o; simp [go_sem, this]⟩
/-- One cell is set. -/
theorem Bxa.set {W : World} {B g : Nat} {x y : Alr} {C D : Option Addr} {c d : Nat} (h : Bxa W B g x C c) (j : Nat) (v : Value) (hl : j < 9) (hj : ∀ i u, (y.lst D d)[i]? = some u → (i = j ∧ u = v) ∨ (i ≠ j ∧ (x.lst C c)[i]? = some u)) : Bxa (W.setCell ⟨g, j, none⟩ v) B g y D d := by
  refine ⟨h.lo, by have := h.lt; simp; exact this, fun i u hu => ?_, fun o => by have := h.fr o; simp [go_sem, this]⟩
  rcases hj i u hu with ⟨rfl, rfl⟩ | ⟨hne, hu2⟩
  · refine World.cell?_setCell_same' _ _ _ ?_
    have : i < (x.lst C c).length := hl
    rw [h.cs i _ (List.getElem?_eq_getElem this)]
    rfl
  · rw [World.cell?_setCell_other _ _ _ _ (fun e => hne (by cases e; rfl))]
    exact h.cs i u hu2
end Go.Proofs.YtohfofecbdfkgaaGreatDoor
