/-
  AlertDrafts: Draft, Follow and Withdraw return what the chapter says, for all alerts and numbers; what they return is memory of their own; and the chapter's examples hold. No condition beyond the row's own (the listed tables of the library, tied by the card).
-/
import Derived.Test.YtohfofecbdfkgaaDoorFm
import Derived.Test.YtohfofecbdfkgaaDoorDq
import Derived.Test.YtohfofecbdfkgaaDoorSi
namespace Go.Proofs.YtohfofecbdfkgaaDoor
open Go.RowKit Go.ChangeShapes Go.WideShapes Go.ChangeAt Al

@[reducible] def idL (ev : ByteArray) (t pa pb pl cn co lim g : Int) (l : List Int) (D : Option Addr) (dc : Nat) : List Value :=
  [.string ev, .int .i64 t, .int .i64 pa, .int .i64 pb, .int .i64 pl, .int .i64 cn, .int .i64 co, .int .i64 lim, .int .i64 g, .slice D l.length dc]
@[simp] theorem setc_size (b : Nat) : ∀ (vs : List Value) (o : Nat) (w : World), (w.setCells b o vs).heap.size = w.heap.size
  | [], _, _ => rfl
  | v :: r, o, w => by rw [World.setCells, setc_size b r]; simp
theorem setc_frozen (b : Nat) (p : Addr) : ∀ (vs : List Value) (o : Nat) (w : World), (w.setCells b o vs).frozen? p = w.frozen? p
  | [], _, _ => rfl
  | v :: r, o, w => by rw [World.setCells, setc_frozen b p r]; simp [go_sem]
theorem calls_at {P : Program} {f : FuncId} {args : Array Value} {w w' : World} {Q : Ending → World → Prop} (h : Calls P f args w Q) (e : w' = w) : Calls P f args w' Q := e ▸ h
/-- A block's cells, all of them. -/
def CellsAt (w : World) (b : Nat) (vs : List Value) : Prop := ∀ j, w.cell? ⟨b, j, none⟩ = vs[j]?
def FreeAt (w : World) (b : Nat) : Prop := ∀ j, w.frozen? ⟨b, j, none⟩ = false
theorem cells_new (w : World) (cs : Array Value) (t : TypeId) : CellsAt (w.alloc (.cells cs t)) w.heap.size cs.toList := fun j => by simp [go_sem]
theorem free_new (w : World) (cs : Array Value) (t : TypeId) : FreeAt (w.alloc (.cells cs t)) w.heap.size := fun j => by simp [go_sem]
theorem CellsAt.below {w w' : World} {b n : Nat} {vs : List Value} (h : CellsAt w b vs) (hb : Below n w w') (hn : b < n) : CellsAt w' b vs := fun j => (hb.cell (p := ⟨b, j, none⟩) hn).trans (h j)
theorem FreeAt.below {w w' : World} {b n : Nat} (h : FreeAt w b) (hb : Below n w w') (hn : b < n) : FreeAt w' b := fun j => (hb.frozen (p := ⟨b, j, none⟩) hn).trans (h j)
theorem CellsAt.kept {w w' : World} {b : Nat} {vs : List Value} {F : Nat → Prop} (h : CellsAt w b vs) (k : Kp F w w') (hn : b < w.heap.size) (hf : ¬ F b) : CellsAt w' b vs := fun j => (k.cell (p := ⟨b, j, none⟩) hn hf).trans (h j)
theorem FreeAt.kept {w w' : World} {b : Nat} {F : Nat → Prop} (h : FreeAt w b) (k : Kp F w w') (hn : b < w.heap.size) (hf : ¬ F b) : FreeAt w' b := fun j => (k.frozen (p := ⟨b, j, none⟩) hn hf).trans (h j)
theorem CellsAt.set {w : World} {b : Nat} {vs us : List Value} (h : CellsAt w b vs) (hl : us.length = vs.length) : CellsAt (w.setCells b 0 us) b us := fun j => by
  by_cases hj : j < us.length
  · have := World.cell?_setCells_in b us 0 w (fun i hi => by rw [Nat.zero_add, h i, List.getElem?_eq_getElem (by omega)]; rfl) j hj
    rw [Nat.zero_add] at this
    rw [this, List.getElem?_eq_getElem hj]
  · rw [World.cell?_setCells_out b us 0 w ⟨b, j, none⟩ (fun _ _ => .inr (by show 0 + us.length ≤ j; omega)), h j, List.getElem?_eq_none (by omega), List.getElem?_eq_none (by omega)]
theorem CellsAt.setOther {w : World} {b b' : Nat} {vs : List Value} (h : CellsAt w b vs) (hne : b ≠ b') (us : List Value) : CellsAt (w.setCells b' 0 us) b vs := fun j =>
  (World.cell?_setCells_out b' us 0 w ⟨b, j, none⟩ (fun e _ => absurd e hne)).trans (h j)
theorem FreeAt.set {w : World} {b : Nat} (h : FreeAt w b) (b' : Nat) (us : List Value) (o : Nat) : FreeAt (w.setCells b' o us) b := fun j => (setc_frozen _ _ _ _ _).trans (h j)
/-- A row of the call's own: where its cells lie. -/
theorem row_facts {w : World} {base e n c : Nat} {A : Option Addr} {xs : List Value} (h : w.ownsRow base e 1 (.slice A n c) n xs) :
    ∃ g, (0 < n → base ≤ g) ∧ (0 < n → A = some ⟨g, 0, none⟩ ∧ g < w.heap.size) ∧ ∀ j, j < n → (w.cell? ⟨g, j, none⟩).isSome = true ∧ w.frozen? ⟨g, j, none⟩ = false := by
  have h0 := h
  rcases h.2 with ⟨hv, hn⟩ | ⟨g, cap, cur, hv, hg, hh, hnc, hcm, hcs, htake⟩
  · subst hn
    exact ⟨0, fun h => absurd h (by omega), fun h => absurd h (by omega), fun j hj => absurd hj (by omega)⟩
  · injection hv with e1 e2 e3
    subst e1 e3
    refine ⟨g, fun _ => hg, fun _ => ⟨rfl, (Array.getElem?_eq_some_iff.1 hh).1⟩, fun j hj => ⟨?_, h0.frozenAt j⟩⟩
    have hl : xs.length = n := by have := h0.1; omega
    have := World.ownsRow.cells h0 (g := g) rfl j (xs[j]'(by omega)) (List.getElem?_eq_getElem _)
    rw [Addr.add_lit, Nat.zero_add] at this
    rw [this]
    rfl
/-- The loop that overwrites the cells of a result. -/
def Lr (n gb : Nat) (w7 : World) (i : Value) (wr : World) : Prop :=
  ∃ k : Nat, k ≤ n ∧ i = .int .i64 k ∧ Kp (fun i => 0 < n ∧ i = gb) w7 wr ∧ ∀ j, j < n → (wr.cell? ⟨gb, j, none⟩).isSome = true ∧ wr.frozen? ⟨gb, j, none⟩ = false
theorem lr_cells {n gb k : Nat} {wr : World} {v : Value} (hcs : ∀ j, j < n → (wr.cell? ⟨gb, j, none⟩).isSome = true ∧ wr.frozen? ⟨gb, j, none⟩ = false) :
    ∀ j, j < n → ((wr.setCell ⟨gb, k, none⟩ v).cell? ⟨gb, j, none⟩).isSome = true ∧ (wr.setCell ⟨gb, k, none⟩ v).frozen? ⟨gb, j, none⟩ = false := by
  intro j hj
  obtain ⟨h1, h2⟩ := hcs j hj
  refine ⟨?_, ?_⟩
  · by_cases e : j = k
    · subst e
      obtain ⟨old, ho⟩ := Option.isSome_iff_exists.1 h1
      rw [World.cell?_setCell_same' _ _ _ (by rw [ho]; rfl)]
      rfl
    · simp [go_sem, e, h1]
  · simp [go_sem, h2]


set_option maxRecDepth 100000 in
set_option maxHeartbeats 8000000 in
theorem ldrafts_ (a : Alr) (A : Option Addr) (c : Nat) (ev : ByteArray) (t pa pb pl cn co lim g : Int) (l : List Int) (D : Option Addr) (dc : Nat) (x1 x2 x3 : Alr) (k1 k2 k3 : Int) (w : World)
    (h1 : draftR ev t cn co lim g l = (x1, k1)) (h2 : folR a t cn co g l = (x2, k2)) (h3 : witR a t = (x3, k3)) (ha : AIn w a A c) (hev : ev.size ≤ maxLen) (hl : Sl w w.heap.size 1 D l.length dc (ints l)) (hlb : l.length * 8 ≤ 140737488355328) (hr : Rdy w) :
    Calls Tryd.prog 4 #[a.val A c, .agg (idL ev t pa pb pl cn co lim g l D dc).toArray] w fun e w' => e = .returned (.bool true) ∧ Below w.heap.size w w' := by
  have HA := Lib.hid ha
  have HR := Lib.hid hr
  have HL := Lib.hid hl
  have hev1 : x1.ev.size ≤ maxLen := by have := draftR_ev t cn co lim g l hev; rw [h1] at this; exact this
  have hev2 : x2.ev.size ≤ maxLen := by have := folR_ev t cn co g l ha.ev; rw [h2] at this; exact this
  have hev3 : x3.ev.size ≤ maxLen := by have := witR_ev t ha.ev; rw [h3] at this; exact this
  have HV1 := Lib.hid h1
  have HV2 := Lib.hid h2
  have HV3 := Lib.hid h3
  have q1 : (k1 != k1) = false := by simp
  have q2 : (k2 != k2) = false := by simp
  have q3 : (k3 == k3) = true := by simp
  have Hw : Hid (Below w.heap.size w w) := Below.refl _ _
  clear ha hr hl h1 h2 h3
  go_enter Tryd.func4, Tryd.ntmps4
  go_wp2_with fail
  refine (Draft_is ev t pa pb pl cn co lim g l D dc x1 k1 _ HV1.out hev ((HL.out.below (Hw.out.trans (by repeat (first | exact Below.refl _ _ | refine below_setCells (by first | omega | (simp; done) | (simp; omega)) _ _ _ _ ?_ | refine below_drewN ?_ _ | refine Below.drew ?_ | refine Below.alloc ?_ (by first | omega | (simp; done) | (simp; omega)) _)))).more (by have := Hw.out.size; first | omega | (simp; omega)))).mono ?_
  rintro e w1 ⟨A1, c1, rfl, ho, hb⟩
  have r1w1 : Hid (ARow w1 w.heap.size x1 A1 c1) := own_more ho (by first | omega | (simp; done) | (simp; omega))
  clear ho
  have Hw1 : Hid (Below w.heap.size w w1) := (show Below w.heap.size w _ from (by repeat (first | exact Below.refl _ _ | refine below_setCells (by first | omega | (simp; done) | (simp; omega)) _ _ _ _ ?_ | refine below_drewN ?_ _ | refine Below.drew ?_ | refine Below.alloc ?_ (by first | omega | (simp; done) | (simp; omega)) _))).trans (hb.mono (by first | omega | (simp; done) | (simp; omega)))
  have zw1 : w.heap.size + 2 ≤ w1.heap.size := by have := hb.size; simp at this; omega
  have Caw1 : Hid (CellsAt w1 w.heap.size [.string a.ev, .int .i64 a.ver, .int .i64 a.tm, .int .i64 a.n, .int .i64 a.of, .int .i64 a.grid, .slice A a.cells.length c, .bool a.wd, .int .i64 a.before]) := ((cells_new w _ _).below (n := w.heap.size + 1) ((Below.refl _ _).alloc (by simp) _) (by omega)).below hb (by simp; omega)
  have Ciw1 : Hid (CellsAt w1 (w.heap.size + 1) [.string ev, .int .i64 t, .int .i64 pa, .int .i64 pb, .int .i64 pl, .int .i64 cn, .int .i64 co, .int .i64 lim, .int .i64 g, .slice D l.length dc]) := by
    have := (cells_new (w.alloc (.cells (a.val A c).cells 29)) (idL ev t pa pb pl cn co lim g l D dc).toArray 43).below hb (by simp)
    simp at this
    exact Lib.hid this
  clear hb
  have la : w.heap.size < w1.heap.size := by omega
  have li : w.heap.size + 1 < w1.heap.size := by omega
  have fi0 : w1.cell? ⟨(w.heap.size + 1), 0, none⟩ = some (.string ev) := Ciw1.out 0
  have fi1 : w1.cell? ⟨(w.heap.size + 1), 1, none⟩ = some (.int .i64 t) := Ciw1.out 1
  have fi2 : w1.cell? ⟨(w.heap.size + 1), 2, none⟩ = some (.int .i64 pa) := Ciw1.out 2
  have fi3 : w1.cell? ⟨(w.heap.size + 1), 3, none⟩ = some (.int .i64 pb) := Ciw1.out 3
  have fi4 : w1.cell? ⟨(w.heap.size + 1), 4, none⟩ = some (.int .i64 pl) := Ciw1.out 4
  have fi5 : w1.cell? ⟨(w.heap.size + 1), 5, none⟩ = some (.int .i64 cn) := Ciw1.out 5
  have fi6 : w1.cell? ⟨(w.heap.size + 1), 6, none⟩ = some (.int .i64 co) := Ciw1.out 6
  have fi7 : w1.cell? ⟨(w.heap.size + 1), 7, none⟩ = some (.int .i64 lim) := Ciw1.out 7
  have fi8 : w1.cell? ⟨(w.heap.size + 1), 8, none⟩ = some (.int .i64 g) := Ciw1.out 8
  have fi9 : w1.cell? ⟨(w.heap.size + 1), 9, none⟩ = some (.slice D l.length dc) := Ciw1.out 9
  go_wp2_with fail
  refine (rDraft_is ev t pa pb pl cn co lim g l D dc x1 k1 _ HV1.out hev ((HL.out.below (Hw1.out.trans (by repeat (first | exact Below.refl _ _ | refine below_setCells (by first | omega | (simp; done) | (simp; omega)) _ _ _ _ ?_ | refine below_drewN ?_ _ | refine Below.drew ?_ | refine Below.alloc ?_ (by first | omega | (simp; done) | (simp; omega)) _)))).more (by have := Hw1.out.size; first | omega | (simp; omega)))).mono ?_
  rintro e w2 ⟨A2, c2, rfl, ho, hb⟩
  have r2w2 : Hid (ARow w2 w1.heap.size x1 A2 c2) := own_more ho (by first | omega | (simp; done) | (simp; omega))
  clear ho
  clear la li
  clear fi0 fi1 fi2 fi3 fi4 fi5 fi6 fi7 fi8 fi9
  have Qw2 : Hid (Below w1.heap.size w1 w2) := (show Below w1.heap.size w1 _ from (by repeat (first | exact Below.refl _ _ | refine below_setCells (by first | omega | (simp; done) | (simp; omega)) _ _ _ _ ?_ | refine below_drewN ?_ _ | refine Below.drew ?_ | refine Below.alloc ?_ (by first | omega | (simp; done) | (simp; omega)) _))).trans (hb.mono (by first | omega | (simp; done) | (simp; omega)))
  have Hw2 : Hid (Below w.heap.size w w2) := Hw1.out.trans (Qw2.out.mono Hw1.out.size)
  have zw2 : w1.heap.size ≤ w2.heap.size := Qw2.out.size
  have Caw2 : Hid (CellsAt w2 w.heap.size [.string a.ev, .int .i64 a.ver, .int .i64 a.tm, .int .i64 a.n, .int .i64 a.of, .int .i64 a.grid, .slice A a.cells.length c, .bool a.wd, .int .i64 a.before]) := Caw1.out.below Qw2.out (by omega)
  clear Caw1
  have Ciw2 : Hid (CellsAt w2 (w.heap.size + 1) [.string ev, .int .i64 t, .int .i64 pa, .int .i64 pb, .int .i64 pl, .int .i64 cn, .int .i64 co, .int .i64 lim, .int .i64 g, .slice D l.length dc]) := Ciw1.out.below Qw2.out (by omega)
  clear Ciw1
  have r1w2 : Hid (ARow w2 w.heap.size x1 A1 c1) := own_below r1w1.out (Nat.le_refl _) Qw2.out
  clear r1w1
  have zbw2 : w1.heap.size < w2.heap.size := by have := hb.size; simp at this; omega
  have Cbw2 : Hid (CellsAt w2 w1.heap.size [.string x1.ev, .int .i64 x1.ver, .int .i64 x1.tm, .int .i64 x1.n, .int .i64 x1.of, .int .i64 x1.grid, .slice A1 x1.cells.length c1, .bool x1.wd, .int .i64 x1.before]) := (cells_new w1 _ _).below hb (by simp)
  have Gbw2 : Hid (FreeAt w2 w1.heap.size) := (free_new w1 _ _).below hb (by simp)
  clear hb
  have la : w.heap.size < w2.heap.size := by omega
  have li : (w.heap.size + 1) < w2.heap.size := by omega
  have lb : w1.heap.size < w2.heap.size := by omega
  have fb0 : w2.cell? ⟨w1.heap.size, 0, none⟩ = some (.string x1.ev) := Cbw2.out 0
  have fb1 : w2.cell? ⟨w1.heap.size, 1, none⟩ = some (.int .i64 x1.ver) := Cbw2.out 1
  have fb2 : w2.cell? ⟨w1.heap.size, 2, none⟩ = some (.int .i64 x1.tm) := Cbw2.out 2
  have fb3 : w2.cell? ⟨w1.heap.size, 3, none⟩ = some (.int .i64 x1.n) := Cbw2.out 3
  have fb4 : w2.cell? ⟨w1.heap.size, 4, none⟩ = some (.int .i64 x1.of) := Cbw2.out 4
  have fb5 : w2.cell? ⟨w1.heap.size, 5, none⟩ = some (.int .i64 x1.grid) := Cbw2.out 5
  have fb6 : w2.cell? ⟨w1.heap.size, 6, none⟩ = some (.slice A1 x1.cells.length c1) := Cbw2.out 6
  have fb7 : w2.cell? ⟨w1.heap.size, 7, none⟩ = some (.bool x1.wd) := Cbw2.out 7
  have fb8 : w2.cell? ⟨w1.heap.size, 8, none⟩ = some (.int .i64 x1.before) := Cbw2.out 8
  go_wp2_with fail
  refine (same_is x1 x1 A1 c1 A2 c2 _ ((own_in hev1 r1w2.out).below (by repeat (first | exact Below.refl _ _ | refine below_setCells (by first | omega | (simp; done) | (simp; omega)) _ _ _ _ ?_ | refine below_drewN ?_ _ | refine Below.drew ?_ | refine Below.alloc ?_ (by first | omega | (simp; done) | (simp; omega)) _))) ((own_in hev1 r2w2.out).below (by repeat (first | exact Below.refl _ _ | refine below_setCells (by first | omega | (simp; done) | (simp; omega)) _ _ _ _ ?_ | refine below_drewN ?_ _ | refine Below.drew ?_ | refine Below.alloc ?_ (by first | omega | (simp; done) | (simp; omega)) _))) true (sameB_refl x1)).mono ?_
  rintro e w3 ⟨rfl, hb⟩
  clear la li lb
  clear fb0 fb1 fb2 fb3 fb4 fb5 fb6 fb7 fb8
  have Qw3 : Hid (Below w2.heap.size w2 w3) := (show Below w2.heap.size w2 _ from (by repeat (first | exact Below.refl _ _ | refine below_setCells (by first | omega | (simp; done) | (simp; omega)) _ _ _ _ ?_ | refine below_drewN ?_ _ | refine Below.drew ?_ | refine Below.alloc ?_ (by first | omega | (simp; done) | (simp; omega)) _))).trans (hb.mono (by first | omega | (simp; done) | (simp; omega)))
  have Hw3 : Hid (Below w.heap.size w w3) := Hw2.out.trans (Qw3.out.mono Hw2.out.size)
  have zw3 : w2.heap.size ≤ w3.heap.size := Qw3.out.size
  have Caw3 : Hid (CellsAt w3 w.heap.size [.string a.ev, .int .i64 a.ver, .int .i64 a.tm, .int .i64 a.n, .int .i64 a.of, .int .i64 a.grid, .slice A a.cells.length c, .bool a.wd, .int .i64 a.before]) := Caw2.out.below Qw3.out (by omega)
  clear Caw2
  have Ciw3 : Hid (CellsAt w3 (w.heap.size + 1) [.string ev, .int .i64 t, .int .i64 pa, .int .i64 pb, .int .i64 pl, .int .i64 cn, .int .i64 co, .int .i64 lim, .int .i64 g, .slice D l.length dc]) := Ciw2.out.below Qw3.out (by omega)
  clear Ciw2
  have Cbw3 : Hid (CellsAt w3 w1.heap.size [.string x1.ev, .int .i64 x1.ver, .int .i64 x1.tm, .int .i64 x1.n, .int .i64 x1.of, .int .i64 x1.grid, .slice A1 x1.cells.length c1, .bool x1.wd, .int .i64 x1.before]) := Cbw2.out.below Qw3.out (by omega)
  clear Cbw2
  have Gbw3 : Hid (FreeAt w3 w1.heap.size) := Gbw2.out.below Qw3.out (by omega)
  clear Gbw2
  have r1w3 : Hid (ARow w3 w.heap.size x1 A1 c1) := own_below r1w2.out (Nat.le_refl _) Qw3.out
  clear r1w2
  have r2w3 : Hid (ARow w3 w1.heap.size x1 A2 c2) := own_below r2w2.out (Nat.le_refl _) Qw3.out
  clear r2w2
  have zbw3 : w2.heap.size < w3.heap.size := by have := hb.size; simp at this; omega
  have Ccw3 : Hid (CellsAt w3 w2.heap.size [.string x1.ev, .int .i64 x1.ver, .int .i64 x1.tm, .int .i64 x1.n, .int .i64 x1.of, .int .i64 x1.grid, .slice A2 x1.cells.length c2, .bool x1.wd, .int .i64 x1.before]) := (cells_new w2 _ _).below hb (by simp)
  have Gcw3 : Hid (FreeAt w3 w2.heap.size) := (free_new w2 _ _).below hb (by simp)
  clear hb
  have la : w.heap.size < w3.heap.size := by omega
  have li : (w.heap.size + 1) < w3.heap.size := by omega
  have lb : w1.heap.size < w3.heap.size := by omega
  have lc : w2.heap.size < w3.heap.size := by omega
  clear r1w3
  clear r2w3
  have fa0 : w3.cell? ⟨w.heap.size, 0, none⟩ = some (.string a.ev) := Caw3.out 0
  have fa1 : w3.cell? ⟨w.heap.size, 1, none⟩ = some (.int .i64 a.ver) := Caw3.out 1
  have fa2 : w3.cell? ⟨w.heap.size, 2, none⟩ = some (.int .i64 a.tm) := Caw3.out 2
  have fa3 : w3.cell? ⟨w.heap.size, 3, none⟩ = some (.int .i64 a.n) := Caw3.out 3
  have fa4 : w3.cell? ⟨w.heap.size, 4, none⟩ = some (.int .i64 a.of) := Caw3.out 4
  have fa5 : w3.cell? ⟨w.heap.size, 5, none⟩ = some (.int .i64 a.grid) := Caw3.out 5
  have fa6 : w3.cell? ⟨w.heap.size, 6, none⟩ = some (.slice A a.cells.length c) := Caw3.out 6
  have fa7 : w3.cell? ⟨w.heap.size, 7, none⟩ = some (.bool a.wd) := Caw3.out 7
  have fa8 : w3.cell? ⟨w.heap.size, 8, none⟩ = some (.int .i64 a.before) := Caw3.out 8
  have fi0 : w3.cell? ⟨(w.heap.size + 1), 0, none⟩ = some (.string ev) := Ciw3.out 0
  have fi1 : w3.cell? ⟨(w.heap.size + 1), 1, none⟩ = some (.int .i64 t) := Ciw3.out 1
  have fi2 : w3.cell? ⟨(w.heap.size + 1), 2, none⟩ = some (.int .i64 pa) := Ciw3.out 2
  have fi3 : w3.cell? ⟨(w.heap.size + 1), 3, none⟩ = some (.int .i64 pb) := Ciw3.out 3
  have fi4 : w3.cell? ⟨(w.heap.size + 1), 4, none⟩ = some (.int .i64 pl) := Ciw3.out 4
  have fi5 : w3.cell? ⟨(w.heap.size + 1), 5, none⟩ = some (.int .i64 cn) := Ciw3.out 5
  have fi6 : w3.cell? ⟨(w.heap.size + 1), 6, none⟩ = some (.int .i64 co) := Ciw3.out 6
  have fi7 : w3.cell? ⟨(w.heap.size + 1), 7, none⟩ = some (.int .i64 lim) := Ciw3.out 7
  have fi8 : w3.cell? ⟨(w.heap.size + 1), 8, none⟩ = some (.int .i64 g) := Ciw3.out 8
  have fi9 : w3.cell? ⟨(w.heap.size + 1), 9, none⟩ = some (.slice D l.length dc) := Ciw3.out 9
  go_wp2_with fail
  refine (Follow_is a A c t cn co g l D dc x2 k2 _ HV2.out (HA.out.below (Hw3.out.trans (by repeat (first | exact Below.refl _ _ | refine below_setCells (by first | omega | (simp; done) | (simp; omega)) _ _ _ _ ?_ | refine below_drewN ?_ _ | refine Below.drew ?_ | refine Below.alloc ?_ (by first | omega | (simp; done) | (simp; omega)) _)))) ((HL.out.below (Hw3.out.trans (by repeat (first | exact Below.refl _ _ | refine below_setCells (by first | omega | (simp; done) | (simp; omega)) _ _ _ _ ?_ | refine below_drewN ?_ _ | refine Below.drew ?_ | refine Below.alloc ?_ (by first | omega | (simp; done) | (simp; omega)) _)))).more (by have := Hw3.out.size; first | omega | (simp; omega))) (HR.out.below (Hw3.out.trans (by repeat (first | exact Below.refl _ _ | refine below_setCells (by first | omega | (simp; done) | (simp; omega)) _ _ _ _ ?_ | refine below_drewN ?_ _ | refine Below.drew ?_ | refine Below.alloc ?_ (by first | omega | (simp; done) | (simp; omega)) _))))).mono ?_
  rintro e w4 ⟨A4, c4, rfl, ho, hb⟩
  have r4w4 : Hid (ARow w4 w3.heap.size x2 A4 c4) := own_more ho (by first | omega | (simp; done) | (simp; omega))
  clear ho
  clear la li lb lc
  clear fa0 fa1 fa2 fa3 fa4 fa5 fa6 fa7 fa8 fi0 fi1 fi2 fi3 fi4 fi5 fi6 fi7 fi8 fi9
  have Qw4 : Hid (Below w3.heap.size w3 w4) := (show Below w3.heap.size w3 _ from (by repeat (first | exact Below.refl _ _ | refine below_setCells (by first | omega | (simp; done) | (simp; omega)) _ _ _ _ ?_ | refine below_drewN ?_ _ | refine Below.drew ?_ | refine Below.alloc ?_ (by first | omega | (simp; done) | (simp; omega)) _))).trans (hb.mono (by first | omega | (simp; done) | (simp; omega)))
  have Hw4 : Hid (Below w.heap.size w w4) := Hw3.out.trans (Qw4.out.mono Hw3.out.size)
  have zw4 : w3.heap.size ≤ w4.heap.size := Qw4.out.size
  have Caw4 : Hid (CellsAt w4 w.heap.size [.string a.ev, .int .i64 a.ver, .int .i64 a.tm, .int .i64 a.n, .int .i64 a.of, .int .i64 a.grid, .slice A a.cells.length c, .bool a.wd, .int .i64 a.before]) := Caw3.out.below Qw4.out (by omega)
  clear Caw3
  have Ciw4 : Hid (CellsAt w4 (w.heap.size + 1) [.string ev, .int .i64 t, .int .i64 pa, .int .i64 pb, .int .i64 pl, .int .i64 cn, .int .i64 co, .int .i64 lim, .int .i64 g, .slice D l.length dc]) := Ciw3.out.below Qw4.out (by omega)
  clear Ciw3
  have Cbw4 : Hid (CellsAt w4 w1.heap.size [.string x1.ev, .int .i64 x1.ver, .int .i64 x1.tm, .int .i64 x1.n, .int .i64 x1.of, .int .i64 x1.grid, .slice A1 x1.cells.length c1, .bool x1.wd, .int .i64 x1.before]) := Cbw3.out.below Qw4.out (by omega)
  clear Cbw3
  have Gbw4 : Hid (FreeAt w4 w1.heap.size) := Gbw3.out.below Qw4.out (by omega)
  clear Gbw3
  have Ccw4 : Hid (CellsAt w4 w2.heap.size [.string x1.ev, .int .i64 x1.ver, .int .i64 x1.tm, .int .i64 x1.n, .int .i64 x1.of, .int .i64 x1.grid, .slice A2 x1.cells.length c2, .bool x1.wd, .int .i64 x1.before]) := Ccw3.out.below Qw4.out (by omega)
  clear Ccw3
  have Gcw4 : Hid (FreeAt w4 w2.heap.size) := Gcw3.out.below Qw4.out (by omega)
  clear Gcw3
  clear hb
  have la : w.heap.size < w4.heap.size := by omega
  have li : (w.heap.size + 1) < w4.heap.size := by omega
  have lb : w1.heap.size < w4.heap.size := by omega
  have lc : w2.heap.size < w4.heap.size := by omega
  have fb0 : w4.cell? ⟨w1.heap.size, 0, none⟩ = some (.string x1.ev) := Cbw4.out 0
  have gb0 : w4.frozen? ⟨w1.heap.size, 0, none⟩ = false := Gbw4.out 0
  have fb1 : w4.cell? ⟨w1.heap.size, 1, none⟩ = some (.int .i64 x1.ver) := Cbw4.out 1
  have gb1 : w4.frozen? ⟨w1.heap.size, 1, none⟩ = false := Gbw4.out 1
  have fb2 : w4.cell? ⟨w1.heap.size, 2, none⟩ = some (.int .i64 x1.tm) := Cbw4.out 2
  have gb2 : w4.frozen? ⟨w1.heap.size, 2, none⟩ = false := Gbw4.out 2
  have fb3 : w4.cell? ⟨w1.heap.size, 3, none⟩ = some (.int .i64 x1.n) := Cbw4.out 3
  have gb3 : w4.frozen? ⟨w1.heap.size, 3, none⟩ = false := Gbw4.out 3
  have fb4 : w4.cell? ⟨w1.heap.size, 4, none⟩ = some (.int .i64 x1.of) := Cbw4.out 4
  have gb4 : w4.frozen? ⟨w1.heap.size, 4, none⟩ = false := Gbw4.out 4
  have fb5 : w4.cell? ⟨w1.heap.size, 5, none⟩ = some (.int .i64 x1.grid) := Cbw4.out 5
  have gb5 : w4.frozen? ⟨w1.heap.size, 5, none⟩ = false := Gbw4.out 5
  have fb6 : w4.cell? ⟨w1.heap.size, 6, none⟩ = some (.slice A1 x1.cells.length c1) := Cbw4.out 6
  have gb6 : w4.frozen? ⟨w1.heap.size, 6, none⟩ = false := Gbw4.out 6
  have fb7 : w4.cell? ⟨w1.heap.size, 7, none⟩ = some (.bool x1.wd) := Cbw4.out 7
  have gb7 : w4.frozen? ⟨w1.heap.size, 7, none⟩ = false := Gbw4.out 7
  have fb8 : w4.cell? ⟨w1.heap.size, 8, none⟩ = some (.int .i64 x1.before) := Cbw4.out 8
  have gb8 : w4.frozen? ⟨w1.heap.size, 8, none⟩ = false := Gbw4.out 8
  have fa0 : w4.cell? ⟨w.heap.size, 0, none⟩ = some (.string a.ev) := Caw4.out 0
  have fa1 : w4.cell? ⟨w.heap.size, 1, none⟩ = some (.int .i64 a.ver) := Caw4.out 1
  have fa2 : w4.cell? ⟨w.heap.size, 2, none⟩ = some (.int .i64 a.tm) := Caw4.out 2
  have fa3 : w4.cell? ⟨w.heap.size, 3, none⟩ = some (.int .i64 a.n) := Caw4.out 3
  have fa4 : w4.cell? ⟨w.heap.size, 4, none⟩ = some (.int .i64 a.of) := Caw4.out 4
  have fa5 : w4.cell? ⟨w.heap.size, 5, none⟩ = some (.int .i64 a.grid) := Caw4.out 5
  have fa6 : w4.cell? ⟨w.heap.size, 6, none⟩ = some (.slice A a.cells.length c) := Caw4.out 6
  have fa7 : w4.cell? ⟨w.heap.size, 7, none⟩ = some (.bool a.wd) := Caw4.out 7
  have fa8 : w4.cell? ⟨w.heap.size, 8, none⟩ = some (.int .i64 a.before) := Caw4.out 8
  have fi0 : w4.cell? ⟨(w.heap.size + 1), 0, none⟩ = some (.string ev) := Ciw4.out 0
  have fi1 : w4.cell? ⟨(w.heap.size + 1), 1, none⟩ = some (.int .i64 t) := Ciw4.out 1
  have fi2 : w4.cell? ⟨(w.heap.size + 1), 2, none⟩ = some (.int .i64 pa) := Ciw4.out 2
  have fi3 : w4.cell? ⟨(w.heap.size + 1), 3, none⟩ = some (.int .i64 pb) := Ciw4.out 3
  have fi4 : w4.cell? ⟨(w.heap.size + 1), 4, none⟩ = some (.int .i64 pl) := Ciw4.out 4
  have fi5 : w4.cell? ⟨(w.heap.size + 1), 5, none⟩ = some (.int .i64 cn) := Ciw4.out 5
  have fi6 : w4.cell? ⟨(w.heap.size + 1), 6, none⟩ = some (.int .i64 co) := Ciw4.out 6
  have fi7 : w4.cell? ⟨(w.heap.size + 1), 7, none⟩ = some (.int .i64 lim) := Ciw4.out 7
  have fi8 : w4.cell? ⟨(w.heap.size + 1), 8, none⟩ = some (.int .i64 g) := Ciw4.out 8
  have fi9 : w4.cell? ⟨(w.heap.size + 1), 9, none⟩ = some (.slice D l.length dc) := Ciw4.out 9
  go_wp2_with fail
  clear fb0 gb0 fb1 gb1 fb2 gb2 fb3 gb3 fb4 gb4 fb5 gb5 fb6 gb6 fb7 gb7 fb8 gb8 fa0 fa1 fa2 fa3 fa4 fa5 fa6 fa7 fa8 fi0 fi1 fi2 fi3 fi4 fi5 fi6 fi7 fi8 fi9
  obtain ⟨s4, hs4⟩ : ∃ W, W = (w4.setCells w1.heap.size 0 [.string x2.ev, .int .i64 x2.ver, .int .i64 x2.tm, .int .i64 x2.n, .int .i64 x2.of, .int .i64 x2.grid, .slice A4 x2.cells.length c4, .bool x2.wd, .int .i64 x2.before]) := ⟨_, rfl⟩
  refine calls_at ?_ hs4.symm
  have zs4 : s4.heap.size = w4.heap.size := by rw [hs4]; exact setc_size _ _ _ _
  have Cas4 : Hid (CellsAt s4 w.heap.size [.string a.ev, .int .i64 a.ver, .int .i64 a.tm, .int .i64 a.n, .int .i64 a.of, .int .i64 a.grid, .slice A a.cells.length c, .bool a.wd, .int .i64 a.before]) := by rw [hs4]; exact Caw4.out.setOther (by omega) _
  clear Caw4
  have Cis4 : Hid (CellsAt s4 (w.heap.size + 1) [.string ev, .int .i64 t, .int .i64 pa, .int .i64 pb, .int .i64 pl, .int .i64 cn, .int .i64 co, .int .i64 lim, .int .i64 g, .slice D l.length dc]) := by rw [hs4]; exact Ciw4.out.setOther (by omega) _
  clear Ciw4
  have Cbs4 : Hid (CellsAt s4 w1.heap.size [.string x2.ev, .int .i64 x2.ver, .int .i64 x2.tm, .int .i64 x2.n, .int .i64 x2.of, .int .i64 x2.grid, .slice A4 x2.cells.length c4, .bool x2.wd, .int .i64 x2.before]) := by rw [hs4]; exact Cbw4.out.set rfl
  clear Cbw4
  have Gbs4 : Hid (FreeAt s4 w1.heap.size) := by rw [hs4]; exact Gbw4.out.set _ _ _
  clear Gbw4
  have Ccs4 : Hid (CellsAt s4 w2.heap.size [.string x1.ev, .int .i64 x1.ver, .int .i64 x1.tm, .int .i64 x1.n, .int .i64 x1.of, .int .i64 x1.grid, .slice A2 x1.cells.length c2, .bool x1.wd, .int .i64 x1.before]) := by rw [hs4]; exact Ccw4.out.setOther (by omega) _
  clear Ccw4
  have Gcs4 : Hid (FreeAt s4 w2.heap.size) := by rw [hs4]; exact Gcw4.out.set _ _ _
  clear Gcw4
  have r4s4 : Hid (ARow s4 w3.heap.size x2 A4 c4) := by rw [hs4]; exact own_setCells (by omega) _ _ _ r4w4.out
  clear r4w4
  have Hs4 : Hid (Below w.heap.size w s4) := by rw [hs4]; exact below_setCells (by omega) _ _ _ _ Hw4.out
  clear la li lb lc
  have la : w.heap.size < s4.heap.size := by omega
  have li : (w.heap.size + 1) < s4.heap.size := by omega
  have lb : w1.heap.size < s4.heap.size := by omega
  have lc : w2.heap.size < s4.heap.size := by omega
  clear hs4
  refine (rFollow_is a A c t cn co g l D dc x2 k2 s4 HV2.out (HA.out.below (Hs4.out.trans (by repeat (first | exact Below.refl _ _ | refine below_setCells (by first | omega | (simp; done) | (simp; omega)) _ _ _ _ ?_ | refine below_drewN ?_ _ | refine Below.drew ?_ | refine Below.alloc ?_ (by first | omega | (simp; done) | (simp; omega)) _)))) ((HL.out.below (Hs4.out.trans (by repeat (first | exact Below.refl _ _ | refine below_setCells (by first | omega | (simp; done) | (simp; omega)) _ _ _ _ ?_ | refine below_drewN ?_ _ | refine Below.drew ?_ | refine Below.alloc ?_ (by first | omega | (simp; done) | (simp; omega)) _)))).more (by have := Hs4.out.size; first | omega | (simp; omega)))).mono ?_
  rintro e w5 ⟨A5, c5, rfl, ho, hb⟩
  have r5w5 : Hid (ARow w5 s4.heap.size x2 A5 c5) := own_more ho (by first | omega | (simp; done) | (simp; omega))
  clear ho
  clear la li lb lc
  have Qw5 : Hid (Below s4.heap.size s4 w5) := (show Below s4.heap.size s4 _ from (by repeat (first | exact Below.refl _ _ | refine below_setCells (by first | omega | (simp; done) | (simp; omega)) _ _ _ _ ?_ | refine below_drewN ?_ _ | refine Below.drew ?_ | refine Below.alloc ?_ (by first | omega | (simp; done) | (simp; omega)) _))).trans (hb.mono (by first | omega | (simp; done) | (simp; omega)))
  have Hw5 : Hid (Below w.heap.size w w5) := Hs4.out.trans (Qw5.out.mono Hs4.out.size)
  have zw5 : s4.heap.size ≤ w5.heap.size := Qw5.out.size
  have Caw5 : Hid (CellsAt w5 w.heap.size [.string a.ev, .int .i64 a.ver, .int .i64 a.tm, .int .i64 a.n, .int .i64 a.of, .int .i64 a.grid, .slice A a.cells.length c, .bool a.wd, .int .i64 a.before]) := Cas4.out.below Qw5.out (by omega)
  clear Cas4
  have Ciw5 : Hid (CellsAt w5 (w.heap.size + 1) [.string ev, .int .i64 t, .int .i64 pa, .int .i64 pb, .int .i64 pl, .int .i64 cn, .int .i64 co, .int .i64 lim, .int .i64 g, .slice D l.length dc]) := Cis4.out.below Qw5.out (by omega)
  clear Cis4
  have Cbw5 : Hid (CellsAt w5 w1.heap.size [.string x2.ev, .int .i64 x2.ver, .int .i64 x2.tm, .int .i64 x2.n, .int .i64 x2.of, .int .i64 x2.grid, .slice A4 x2.cells.length c4, .bool x2.wd, .int .i64 x2.before]) := Cbs4.out.below Qw5.out (by omega)
  clear Cbs4
  have Gbw5 : Hid (FreeAt w5 w1.heap.size) := Gbs4.out.below Qw5.out (by omega)
  clear Gbs4
  have Ccw5 : Hid (CellsAt w5 w2.heap.size [.string x1.ev, .int .i64 x1.ver, .int .i64 x1.tm, .int .i64 x1.n, .int .i64 x1.of, .int .i64 x1.grid, .slice A2 x1.cells.length c2, .bool x1.wd, .int .i64 x1.before]) := Ccs4.out.below Qw5.out (by omega)
  clear Ccs4
  have Gcw5 : Hid (FreeAt w5 w2.heap.size) := Gcs4.out.below Qw5.out (by omega)
  clear Gcs4
  have r4w5 : Hid (ARow w5 w3.heap.size x2 A4 c4) := own_below r4s4.out (Nat.le_refl _) Qw5.out
  clear r4s4
  clear hb
  have la : w.heap.size < w5.heap.size := by omega
  have li : (w.heap.size + 1) < w5.heap.size := by omega
  have lb : w1.heap.size < w5.heap.size := by omega
  have lc : w2.heap.size < w5.heap.size := by omega
  have fc0 : w5.cell? ⟨w2.heap.size, 0, none⟩ = some (.string x1.ev) := Ccw5.out 0
  have gc0 : w5.frozen? ⟨w2.heap.size, 0, none⟩ = false := Gcw5.out 0
  have fc1 : w5.cell? ⟨w2.heap.size, 1, none⟩ = some (.int .i64 x1.ver) := Ccw5.out 1
  have gc1 : w5.frozen? ⟨w2.heap.size, 1, none⟩ = false := Gcw5.out 1
  have fc2 : w5.cell? ⟨w2.heap.size, 2, none⟩ = some (.int .i64 x1.tm) := Ccw5.out 2
  have gc2 : w5.frozen? ⟨w2.heap.size, 2, none⟩ = false := Gcw5.out 2
  have fc3 : w5.cell? ⟨w2.heap.size, 3, none⟩ = some (.int .i64 x1.n) := Ccw5.out 3
  have gc3 : w5.frozen? ⟨w2.heap.size, 3, none⟩ = false := Gcw5.out 3
  have fc4 : w5.cell? ⟨w2.heap.size, 4, none⟩ = some (.int .i64 x1.of) := Ccw5.out 4
  have gc4 : w5.frozen? ⟨w2.heap.size, 4, none⟩ = false := Gcw5.out 4
  have fc5 : w5.cell? ⟨w2.heap.size, 5, none⟩ = some (.int .i64 x1.grid) := Ccw5.out 5
  have gc5 : w5.frozen? ⟨w2.heap.size, 5, none⟩ = false := Gcw5.out 5
  have fc6 : w5.cell? ⟨w2.heap.size, 6, none⟩ = some (.slice A2 x1.cells.length c2) := Ccw5.out 6
  have gc6 : w5.frozen? ⟨w2.heap.size, 6, none⟩ = false := Gcw5.out 6
  have fc7 : w5.cell? ⟨w2.heap.size, 7, none⟩ = some (.bool x1.wd) := Ccw5.out 7
  have gc7 : w5.frozen? ⟨w2.heap.size, 7, none⟩ = false := Gcw5.out 7
  have fc8 : w5.cell? ⟨w2.heap.size, 8, none⟩ = some (.int .i64 x1.before) := Ccw5.out 8
  have gc8 : w5.frozen? ⟨w2.heap.size, 8, none⟩ = false := Gcw5.out 8
  have fn0 : (w5.setCells w2.heap.size 0 [.string x2.ev, .int .i64 x2.ver, .int .i64 x2.tm, .int .i64 x2.n, .int .i64 x2.of, .int .i64 x2.grid, .slice A5 x2.cells.length c5, .bool x2.wd, .int .i64 x2.before]).cell? ⟨w2.heap.size, 0, none⟩ = some (.string x2.ev) := (Ccw5.out.set (us := [.string x2.ev, .int .i64 x2.ver, .int .i64 x2.tm, .int .i64 x2.n, .int .i64 x2.of, .int .i64 x2.grid, .slice A5 x2.cells.length c5, .bool x2.wd, .int .i64 x2.before]) rfl) 0
  have fn1 : (w5.setCells w2.heap.size 0 [.string x2.ev, .int .i64 x2.ver, .int .i64 x2.tm, .int .i64 x2.n, .int .i64 x2.of, .int .i64 x2.grid, .slice A5 x2.cells.length c5, .bool x2.wd, .int .i64 x2.before]).cell? ⟨w2.heap.size, 1, none⟩ = some (.int .i64 x2.ver) := (Ccw5.out.set (us := [.string x2.ev, .int .i64 x2.ver, .int .i64 x2.tm, .int .i64 x2.n, .int .i64 x2.of, .int .i64 x2.grid, .slice A5 x2.cells.length c5, .bool x2.wd, .int .i64 x2.before]) rfl) 1
  have fn2 : (w5.setCells w2.heap.size 0 [.string x2.ev, .int .i64 x2.ver, .int .i64 x2.tm, .int .i64 x2.n, .int .i64 x2.of, .int .i64 x2.grid, .slice A5 x2.cells.length c5, .bool x2.wd, .int .i64 x2.before]).cell? ⟨w2.heap.size, 2, none⟩ = some (.int .i64 x2.tm) := (Ccw5.out.set (us := [.string x2.ev, .int .i64 x2.ver, .int .i64 x2.tm, .int .i64 x2.n, .int .i64 x2.of, .int .i64 x2.grid, .slice A5 x2.cells.length c5, .bool x2.wd, .int .i64 x2.before]) rfl) 2
  have fn3 : (w5.setCells w2.heap.size 0 [.string x2.ev, .int .i64 x2.ver, .int .i64 x2.tm, .int .i64 x2.n, .int .i64 x2.of, .int .i64 x2.grid, .slice A5 x2.cells.length c5, .bool x2.wd, .int .i64 x2.before]).cell? ⟨w2.heap.size, 3, none⟩ = some (.int .i64 x2.n) := (Ccw5.out.set (us := [.string x2.ev, .int .i64 x2.ver, .int .i64 x2.tm, .int .i64 x2.n, .int .i64 x2.of, .int .i64 x2.grid, .slice A5 x2.cells.length c5, .bool x2.wd, .int .i64 x2.before]) rfl) 3
  have fn4 : (w5.setCells w2.heap.size 0 [.string x2.ev, .int .i64 x2.ver, .int .i64 x2.tm, .int .i64 x2.n, .int .i64 x2.of, .int .i64 x2.grid, .slice A5 x2.cells.length c5, .bool x2.wd, .int .i64 x2.before]).cell? ⟨w2.heap.size, 4, none⟩ = some (.int .i64 x2.of) := (Ccw5.out.set (us := [.string x2.ev, .int .i64 x2.ver, .int .i64 x2.tm, .int .i64 x2.n, .int .i64 x2.of, .int .i64 x2.grid, .slice A5 x2.cells.length c5, .bool x2.wd, .int .i64 x2.before]) rfl) 4
  have fn5 : (w5.setCells w2.heap.size 0 [.string x2.ev, .int .i64 x2.ver, .int .i64 x2.tm, .int .i64 x2.n, .int .i64 x2.of, .int .i64 x2.grid, .slice A5 x2.cells.length c5, .bool x2.wd, .int .i64 x2.before]).cell? ⟨w2.heap.size, 5, none⟩ = some (.int .i64 x2.grid) := (Ccw5.out.set (us := [.string x2.ev, .int .i64 x2.ver, .int .i64 x2.tm, .int .i64 x2.n, .int .i64 x2.of, .int .i64 x2.grid, .slice A5 x2.cells.length c5, .bool x2.wd, .int .i64 x2.before]) rfl) 5
  have fn6 : (w5.setCells w2.heap.size 0 [.string x2.ev, .int .i64 x2.ver, .int .i64 x2.tm, .int .i64 x2.n, .int .i64 x2.of, .int .i64 x2.grid, .slice A5 x2.cells.length c5, .bool x2.wd, .int .i64 x2.before]).cell? ⟨w2.heap.size, 6, none⟩ = some (.slice A5 x2.cells.length c5) := (Ccw5.out.set (us := [.string x2.ev, .int .i64 x2.ver, .int .i64 x2.tm, .int .i64 x2.n, .int .i64 x2.of, .int .i64 x2.grid, .slice A5 x2.cells.length c5, .bool x2.wd, .int .i64 x2.before]) rfl) 6
  have fn7 : (w5.setCells w2.heap.size 0 [.string x2.ev, .int .i64 x2.ver, .int .i64 x2.tm, .int .i64 x2.n, .int .i64 x2.of, .int .i64 x2.grid, .slice A5 x2.cells.length c5, .bool x2.wd, .int .i64 x2.before]).cell? ⟨w2.heap.size, 7, none⟩ = some (.bool x2.wd) := (Ccw5.out.set (us := [.string x2.ev, .int .i64 x2.ver, .int .i64 x2.tm, .int .i64 x2.n, .int .i64 x2.of, .int .i64 x2.grid, .slice A5 x2.cells.length c5, .bool x2.wd, .int .i64 x2.before]) rfl) 7
  have fn8 : (w5.setCells w2.heap.size 0 [.string x2.ev, .int .i64 x2.ver, .int .i64 x2.tm, .int .i64 x2.n, .int .i64 x2.of, .int .i64 x2.grid, .slice A5 x2.cells.length c5, .bool x2.wd, .int .i64 x2.before]).cell? ⟨w2.heap.size, 8, none⟩ = some (.int .i64 x2.before) := (Ccw5.out.set (us := [.string x2.ev, .int .i64 x2.ver, .int .i64 x2.tm, .int .i64 x2.n, .int .i64 x2.of, .int .i64 x2.grid, .slice A5 x2.cells.length c5, .bool x2.wd, .int .i64 x2.before]) rfl) 8
  have fb0 : w5.cell? ⟨w1.heap.size, 0, none⟩ = some (.string x2.ev) := Cbw5.out 0
  have fb1 : w5.cell? ⟨w1.heap.size, 1, none⟩ = some (.int .i64 x2.ver) := Cbw5.out 1
  have fb2 : w5.cell? ⟨w1.heap.size, 2, none⟩ = some (.int .i64 x2.tm) := Cbw5.out 2
  have fb3 : w5.cell? ⟨w1.heap.size, 3, none⟩ = some (.int .i64 x2.n) := Cbw5.out 3
  have fb4 : w5.cell? ⟨w1.heap.size, 4, none⟩ = some (.int .i64 x2.of) := Cbw5.out 4
  have fb5 : w5.cell? ⟨w1.heap.size, 5, none⟩ = some (.int .i64 x2.grid) := Cbw5.out 5
  have fb6 : w5.cell? ⟨w1.heap.size, 6, none⟩ = some (.slice A4 x2.cells.length c4) := Cbw5.out 6
  have fb7 : w5.cell? ⟨w1.heap.size, 7, none⟩ = some (.bool x2.wd) := Cbw5.out 7
  have fb8 : w5.cell? ⟨w1.heap.size, 8, none⟩ = some (.int .i64 x2.before) := Cbw5.out 8
  go_wp2_with fail
  clear fc0 gc0 fc1 gc1 fc2 gc2 fc3 gc3 fc4 gc4 fc5 gc5 fc6 gc6 fc7 gc7 fc8 gc8 fn0 fn1 fn2 fn3 fn4 fn5 fn6 fn7 fn8 fb0 fb1 fb2 fb3 fb4 fb5 fb6 fb7 fb8
  obtain ⟨s5, hs5⟩ : ∃ W, W = (w5.setCells w2.heap.size 0 [.string x2.ev, .int .i64 x2.ver, .int .i64 x2.tm, .int .i64 x2.n, .int .i64 x2.of, .int .i64 x2.grid, .slice A5 x2.cells.length c5, .bool x2.wd, .int .i64 x2.before]) := ⟨_, rfl⟩
  refine calls_at ?_ hs5.symm
  have zs5 : s5.heap.size = w5.heap.size := by rw [hs5]; exact setc_size _ _ _ _
  have Cas5 : Hid (CellsAt s5 w.heap.size [.string a.ev, .int .i64 a.ver, .int .i64 a.tm, .int .i64 a.n, .int .i64 a.of, .int .i64 a.grid, .slice A a.cells.length c, .bool a.wd, .int .i64 a.before]) := by rw [hs5]; exact Caw5.out.setOther (by omega) _
  clear Caw5
  have Cis5 : Hid (CellsAt s5 (w.heap.size + 1) [.string ev, .int .i64 t, .int .i64 pa, .int .i64 pb, .int .i64 pl, .int .i64 cn, .int .i64 co, .int .i64 lim, .int .i64 g, .slice D l.length dc]) := by rw [hs5]; exact Ciw5.out.setOther (by omega) _
  clear Ciw5
  have Cbs5 : Hid (CellsAt s5 w1.heap.size [.string x2.ev, .int .i64 x2.ver, .int .i64 x2.tm, .int .i64 x2.n, .int .i64 x2.of, .int .i64 x2.grid, .slice A4 x2.cells.length c4, .bool x2.wd, .int .i64 x2.before]) := by rw [hs5]; exact Cbw5.out.setOther (by omega) _
  clear Cbw5
  have Gbs5 : Hid (FreeAt s5 w1.heap.size) := by rw [hs5]; exact Gbw5.out.set _ _ _
  clear Gbw5
  have Ccs5 : Hid (CellsAt s5 w2.heap.size [.string x2.ev, .int .i64 x2.ver, .int .i64 x2.tm, .int .i64 x2.n, .int .i64 x2.of, .int .i64 x2.grid, .slice A5 x2.cells.length c5, .bool x2.wd, .int .i64 x2.before]) := by rw [hs5]; exact Ccw5.out.set rfl
  clear Ccw5
  have Gcs5 : Hid (FreeAt s5 w2.heap.size) := by rw [hs5]; exact Gcw5.out.set _ _ _
  clear Gcw5
  have r4s5 : Hid (ARow s5 w3.heap.size x2 A4 c4) := by rw [hs5]; exact own_setCells (by omega) _ _ _ r4w5.out
  clear r4w5
  have r5s5 : Hid (ARow s5 s4.heap.size x2 A5 c5) := by rw [hs5]; exact own_setCells (by omega) _ _ _ r5w5.out
  clear r5w5
  have Hs5 : Hid (Below w.heap.size w s5) := by rw [hs5]; exact below_setCells (by omega) _ _ _ _ Hw5.out
  clear la li lb lc
  have la : w.heap.size < s5.heap.size := by omega
  have li : (w.heap.size + 1) < s5.heap.size := by omega
  have lb : w1.heap.size < s5.heap.size := by omega
  have lc : w2.heap.size < s5.heap.size := by omega
  clear hs5
  refine (same_is x2 x2 A4 c4 A5 c5 s5 ((own_in hev2 r4s5.out).below (by repeat (first | exact Below.refl _ _ | refine below_setCells (by first | omega | (simp; done) | (simp; omega)) _ _ _ _ ?_ | refine below_drewN ?_ _ | refine Below.drew ?_ | refine Below.alloc ?_ (by first | omega | (simp; done) | (simp; omega)) _))) ((own_in hev2 r5s5.out).below (by repeat (first | exact Below.refl _ _ | refine below_setCells (by first | omega | (simp; done) | (simp; omega)) _ _ _ _ ?_ | refine below_drewN ?_ _ | refine Below.drew ?_ | refine Below.alloc ?_ (by first | omega | (simp; done) | (simp; omega)) _))) true (sameB_refl x2)).mono ?_
  rintro e w6 ⟨rfl, hb⟩
  clear la li lb lc
  have Qw6 : Hid (Below s5.heap.size s5 w6) := (show Below s5.heap.size s5 _ from (by repeat (first | exact Below.refl _ _ | refine below_setCells (by first | omega | (simp; done) | (simp; omega)) _ _ _ _ ?_ | refine below_drewN ?_ _ | refine Below.drew ?_ | refine Below.alloc ?_ (by first | omega | (simp; done) | (simp; omega)) _))).trans (hb.mono (by first | omega | (simp; done) | (simp; omega)))
  have Hw6 : Hid (Below w.heap.size w w6) := Hs5.out.trans (Qw6.out.mono Hs5.out.size)
  have zw6 : s5.heap.size ≤ w6.heap.size := Qw6.out.size
  have Caw6 : Hid (CellsAt w6 w.heap.size [.string a.ev, .int .i64 a.ver, .int .i64 a.tm, .int .i64 a.n, .int .i64 a.of, .int .i64 a.grid, .slice A a.cells.length c, .bool a.wd, .int .i64 a.before]) := Cas5.out.below Qw6.out (by omega)
  clear Cas5
  have Ciw6 : Hid (CellsAt w6 (w.heap.size + 1) [.string ev, .int .i64 t, .int .i64 pa, .int .i64 pb, .int .i64 pl, .int .i64 cn, .int .i64 co, .int .i64 lim, .int .i64 g, .slice D l.length dc]) := Cis5.out.below Qw6.out (by omega)
  clear Cis5
  have Cbw6 : Hid (CellsAt w6 w1.heap.size [.string x2.ev, .int .i64 x2.ver, .int .i64 x2.tm, .int .i64 x2.n, .int .i64 x2.of, .int .i64 x2.grid, .slice A4 x2.cells.length c4, .bool x2.wd, .int .i64 x2.before]) := Cbs5.out.below Qw6.out (by omega)
  clear Cbs5
  have Gbw6 : Hid (FreeAt w6 w1.heap.size) := Gbs5.out.below Qw6.out (by omega)
  clear Gbs5
  have Ccw6 : Hid (CellsAt w6 w2.heap.size [.string x2.ev, .int .i64 x2.ver, .int .i64 x2.tm, .int .i64 x2.n, .int .i64 x2.of, .int .i64 x2.grid, .slice A5 x2.cells.length c5, .bool x2.wd, .int .i64 x2.before]) := Ccs5.out.below Qw6.out (by omega)
  clear Ccs5
  have Gcw6 : Hid (FreeAt w6 w2.heap.size) := Gcs5.out.below Qw6.out (by omega)
  clear Gcs5
  have r4w6 : Hid (ARow w6 w3.heap.size x2 A4 c4) := own_below r4s5.out (Nat.le_refl _) Qw6.out
  clear r4s5
  have r5w6 : Hid (ARow w6 s4.heap.size x2 A5 c5) := own_below r5s5.out (Nat.le_refl _) Qw6.out
  clear r5s5
  clear hb
  have la : w.heap.size < w6.heap.size := by omega
  have li : (w.heap.size + 1) < w6.heap.size := by omega
  have lb : w1.heap.size < w6.heap.size := by omega
  have lc : w2.heap.size < w6.heap.size := by omega
  clear r5w6
  have fi0 : w6.cell? ⟨(w.heap.size + 1), 0, none⟩ = some (.string ev) := Ciw6.out 0
  have fi1 : w6.cell? ⟨(w.heap.size + 1), 1, none⟩ = some (.int .i64 t) := Ciw6.out 1
  have fi2 : w6.cell? ⟨(w.heap.size + 1), 2, none⟩ = some (.int .i64 pa) := Ciw6.out 2
  have fi3 : w6.cell? ⟨(w.heap.size + 1), 3, none⟩ = some (.int .i64 pb) := Ciw6.out 3
  have fi4 : w6.cell? ⟨(w.heap.size + 1), 4, none⟩ = some (.int .i64 pl) := Ciw6.out 4
  have fi5 : w6.cell? ⟨(w.heap.size + 1), 5, none⟩ = some (.int .i64 cn) := Ciw6.out 5
  have fi6 : w6.cell? ⟨(w.heap.size + 1), 6, none⟩ = some (.int .i64 co) := Ciw6.out 6
  have fi7 : w6.cell? ⟨(w.heap.size + 1), 7, none⟩ = some (.int .i64 lim) := Ciw6.out 7
  have fi8 : w6.cell? ⟨(w.heap.size + 1), 8, none⟩ = some (.int .i64 g) := Ciw6.out 8
  have fi9 : w6.cell? ⟨(w.heap.size + 1), 9, none⟩ = some (.slice D l.length dc) := Ciw6.out 9
  go_wp2_with fail
  have r4k := r4w6
  have zr6 : w3.heap.size ≤ w6.heap.size := by omega
  refine (OwnInts_ l D dc _ ((HL.out.below (Hw6.out.trans (by repeat (first | exact Below.refl _ _ | refine below_setCells (by first | omega | (simp; done) | (simp; omega)) _ _ _ _ ?_ | refine below_drewN ?_ _ | refine Below.drew ?_ | refine Below.alloc ?_ (by first | omega | (simp; done) | (simp; omega)) _)))).more (by have := Hw6.out.size; first | omega | (simp; omega))) (hlb)).mono ?_
  rintro e w7 ⟨A7, c7, rfl, ho, hb⟩
  have r7w7 : Hid (World.ownsRow w7 w6.heap.size 3 1 (.slice A7 l.length c7) l.length (ints l)) := ho
  clear ho
  clear la li lb lc
  clear fi0 fi1 fi2 fi3 fi4 fi5 fi6 fi7 fi8 fi9
  have Qw7 : Hid (Below w6.heap.size w6 w7) := (show Below w6.heap.size w6 _ from (by repeat (first | exact Below.refl _ _ | refine below_setCells (by first | omega | (simp; done) | (simp; omega)) _ _ _ _ ?_ | refine below_drewN ?_ _ | refine Below.drew ?_ | refine Below.alloc ?_ (by first | omega | (simp; done) | (simp; omega)) _))).trans (hb.mono (by first | omega | (simp; done) | (simp; omega)))
  have Hw7 : Hid (Below w.heap.size w w7) := Hw6.out.trans (Qw7.out.mono Hw6.out.size)
  have zw7 : w6.heap.size ≤ w7.heap.size := Qw7.out.size
  have Caw7 : Hid (CellsAt w7 w.heap.size [.string a.ev, .int .i64 a.ver, .int .i64 a.tm, .int .i64 a.n, .int .i64 a.of, .int .i64 a.grid, .slice A a.cells.length c, .bool a.wd, .int .i64 a.before]) := Caw6.out.below Qw7.out (by omega)
  clear Caw6
  have Ciw7 : Hid (CellsAt w7 (w.heap.size + 1) [.string ev, .int .i64 t, .int .i64 pa, .int .i64 pb, .int .i64 pl, .int .i64 cn, .int .i64 co, .int .i64 lim, .int .i64 g, .slice D l.length dc]) := Ciw6.out.below Qw7.out (by omega)
  clear Ciw6
  have Cbw7 : Hid (CellsAt w7 w1.heap.size [.string x2.ev, .int .i64 x2.ver, .int .i64 x2.tm, .int .i64 x2.n, .int .i64 x2.of, .int .i64 x2.grid, .slice A4 x2.cells.length c4, .bool x2.wd, .int .i64 x2.before]) := Cbw6.out.below Qw7.out (by omega)
  clear Cbw6
  have Gbw7 : Hid (FreeAt w7 w1.heap.size) := Gbw6.out.below Qw7.out (by omega)
  clear Gbw6
  have Ccw7 : Hid (CellsAt w7 w2.heap.size [.string x2.ev, .int .i64 x2.ver, .int .i64 x2.tm, .int .i64 x2.n, .int .i64 x2.of, .int .i64 x2.grid, .slice A5 x2.cells.length c5, .bool x2.wd, .int .i64 x2.before]) := Ccw6.out.below Qw7.out (by omega)
  clear Ccw6
  have Gcw7 : Hid (FreeAt w7 w2.heap.size) := Gcw6.out.below Qw7.out (by omega)
  clear Gcw6
  have r4w7 : Hid (ARow w7 w3.heap.size x2 A4 c4) := own_below r4w6.out (Nat.le_refl _) Qw7.out
  clear r4w6
  clear hb
  have la : w.heap.size < w7.heap.size := by omega
  have li : (w.heap.size + 1) < w7.heap.size := by omega
  have lb : w1.heap.size < w7.heap.size := by omega
  have lc : w2.heap.size < w7.heap.size := by omega
  obtain ⟨gb, hg1, hg2, hg4⟩ := row_facts r4w7.out
  have hg5 : 0 < x2.cells.length → gb < w6.heap.size := fun h0 => (own_lt r4k.out (g := gb) (by rw [(hg2 h0).1]; rfl)).2
  have hlen : x2.cells.length ≤ maxLen := Nat.le_trans (Sl.of_own r4w7.out).cap (Sl.of_own r4w7.out).max
  unfold maxLen at hlen
  have HG1 := Lib.hid hg1
  have HG2 := Lib.hid hg2
  have HG4 := Lib.hid hg4
  have HG5 := Lib.hid hg5
  clear hg1 hg2 hg4 hg5
  go_wp2_with fail
  go_loopw [10] (fun i wr => Lr x2.cells.length gb w7 i wr) (fun i _ => x2.cells.length - (intOf i).toNat)
  case atStart => exact ⟨0, Nat.zero_le _, rfl, Kp.refl _ _, HG4.out⟩
  case round =>
    obtain ⟨k, hk, rfl, hkp, hcs⟩ := hrel
    have hgF : ∀ B, B < w3.heap.size → ¬ (0 < x2.cells.length ∧ B = gb) := fun B hB hh => by have := HG1.out hh.1; omega
    have hX : CellsAt wr w1.heap.size [.string x2.ev, .int .i64 x2.ver, .int .i64 x2.tm, .int .i64 x2.n, .int .i64 x2.of, .int .i64 x2.grid, .slice A4 x2.cells.length c4, .bool x2.wd, .int .i64 x2.before] := Cbw7.out.kept hkp (by omega) (hgF _ (by omega))
    have hX6 : wr.cell? ⟨w1.heap.size, 6, none⟩ = some (.slice A4 x2.cells.length c4) := hX 6
    by_cases hlt : k < x2.cells.length
    · obtain ⟨hcell, hfz⟩ := hcs k hlt
      obtain ⟨old, hold⟩ := Option.isSome_iff_exists.1 hcell
      obtain ⟨rfl, hgl⟩ := HG2.out (by omega)
      have i0 : (0 : Int) ≤ (k : Int) := by omega
      have i1 : (k : Int) < (x2.cells.length : Int) := by omega
      have hold' : wr.cell? ⟨gb, 0 + k, none⟩ = some old := by rw [Nat.zero_add]; exact hold
      have hfz' : wr.frozen? ⟨gb, 0 + k, none⟩ = false := by rw [Nat.zero_add]; exact hfz
      clear hX
      go_wp2_with fail
      go_roundw
      case rel => exact ⟨k + 1, by omega, by go_num, hkp.setCell (.inl ⟨by omega, rfl⟩) _, lr_cells hcs⟩
      case measure => simp [intOf]; omega
    · obtain rfl : k = x2.cells.length := by omega
      have hzr : w7.heap.size ≤ wr.heap.size := hkp.size
      have Hwr : Hid (Below w.heap.size w wr) := Hw7.out.trans (hkp.below Hw7.out.size (fun i hi => by have := HG1.out hi.1; have : i = gb := hi.2; omega))
      have Cawr : Hid (CellsAt wr w.heap.size [.string a.ev, .int .i64 a.ver, .int .i64 a.tm, .int .i64 a.n, .int .i64 a.of, .int .i64 a.grid, .slice A a.cells.length c, .bool a.wd, .int .i64 a.before]) := Caw7.out.kept hkp (by omega) (hgF _ (by omega))
      have Ciwr : Hid (CellsAt wr (w.heap.size + 1) [.string ev, .int .i64 t, .int .i64 pa, .int .i64 pb, .int .i64 pl, .int .i64 cn, .int .i64 co, .int .i64 lim, .int .i64 g, .slice D l.length dc]) := Ciw7.out.kept hkp (by omega) (hgF _ (by omega))
      have Cbwr : Hid (CellsAt wr w1.heap.size [.string x2.ev, .int .i64 x2.ver, .int .i64 x2.tm, .int .i64 x2.n, .int .i64 x2.of, .int .i64 x2.grid, .slice A4 x2.cells.length c4, .bool x2.wd, .int .i64 x2.before]) := Cbw7.out.kept hkp (by omega) (hgF _ (by omega))
      have Gbwr : Hid (FreeAt wr w1.heap.size) := Gbw7.out.kept hkp (by omega) (hgF _ (by omega))
      have Ccwr : Hid (CellsAt wr w2.heap.size [.string x2.ev, .int .i64 x2.ver, .int .i64 x2.tm, .int .i64 x2.n, .int .i64 x2.of, .int .i64 x2.grid, .slice A5 x2.cells.length c5, .bool x2.wd, .int .i64 x2.before]) := Ccw7.out.kept hkp (by omega) (hgF _ (by omega))
      have Gcwr : Hid (FreeAt wr w2.heap.size) := Gcw7.out.kept hkp (by omega) (hgF _ (by omega))
      have r7wr : Hid (World.ownsRow wr w6.heap.size 3 1 (.slice A7 l.length c7) l.length (ints l)) := own_keep r7w7.out hkp (fun i hi hh => by
        have h4 := (own_lt r7w7.out hi).1
        have h5 := HG5.out hh.1
        have h6 : i = gb := hh.2
        omega)
      clear hkp hcs hX hX6 HG1 HG2 HG4 HG5 hgF
      clear la li lb lc
      have la : w.heap.size < wr.heap.size := by omega
      have li : (w.heap.size + 1) < wr.heap.size := by omega
      have lb : w1.heap.size < wr.heap.size := by omega
      have lc : w2.heap.size < wr.heap.size := by omega
      have fa0 : wr.cell? ⟨w.heap.size, 0, none⟩ = some (.string a.ev) := Cawr.out 0
      have fa1 : wr.cell? ⟨w.heap.size, 1, none⟩ = some (.int .i64 a.ver) := Cawr.out 1
      have fa2 : wr.cell? ⟨w.heap.size, 2, none⟩ = some (.int .i64 a.tm) := Cawr.out 2
      have fa3 : wr.cell? ⟨w.heap.size, 3, none⟩ = some (.int .i64 a.n) := Cawr.out 3
      have fa4 : wr.cell? ⟨w.heap.size, 4, none⟩ = some (.int .i64 a.of) := Cawr.out 4
      have fa5 : wr.cell? ⟨w.heap.size, 5, none⟩ = some (.int .i64 a.grid) := Cawr.out 5
      have fa6 : wr.cell? ⟨w.heap.size, 6, none⟩ = some (.slice A a.cells.length c) := Cawr.out 6
      have fa7 : wr.cell? ⟨w.heap.size, 7, none⟩ = some (.bool a.wd) := Cawr.out 7
      have fa8 : wr.cell? ⟨w.heap.size, 8, none⟩ = some (.int .i64 a.before) := Cawr.out 8
      have fi0 : wr.cell? ⟨(w.heap.size + 1), 0, none⟩ = some (.string ev) := Ciwr.out 0
      have fi1 : wr.cell? ⟨(w.heap.size + 1), 1, none⟩ = some (.int .i64 t) := Ciwr.out 1
      have fi2 : wr.cell? ⟨(w.heap.size + 1), 2, none⟩ = some (.int .i64 pa) := Ciwr.out 2
      have fi3 : wr.cell? ⟨(w.heap.size + 1), 3, none⟩ = some (.int .i64 pb) := Ciwr.out 3
      have fi4 : wr.cell? ⟨(w.heap.size + 1), 4, none⟩ = some (.int .i64 pl) := Ciwr.out 4
      have fi5 : wr.cell? ⟨(w.heap.size + 1), 5, none⟩ = some (.int .i64 cn) := Ciwr.out 5
      have fi6 : wr.cell? ⟨(w.heap.size + 1), 6, none⟩ = some (.int .i64 co) := Ciwr.out 6
      have fi7 : wr.cell? ⟨(w.heap.size + 1), 7, none⟩ = some (.int .i64 lim) := Ciwr.out 7
      have fi8 : wr.cell? ⟨(w.heap.size + 1), 8, none⟩ = some (.int .i64 g) := Ciwr.out 8
      have fi9 : wr.cell? ⟨(w.heap.size + 1), 9, none⟩ = some (.slice D l.length dc) := Ciwr.out 9
      have fb0 : wr.cell? ⟨w1.heap.size, 0, none⟩ = some (.string x2.ev) := Cbwr.out 0
      have fb1 : wr.cell? ⟨w1.heap.size, 1, none⟩ = some (.int .i64 x2.ver) := Cbwr.out 1
      have fb2 : wr.cell? ⟨w1.heap.size, 2, none⟩ = some (.int .i64 x2.tm) := Cbwr.out 2
      have fb3 : wr.cell? ⟨w1.heap.size, 3, none⟩ = some (.int .i64 x2.n) := Cbwr.out 3
      have fb4 : wr.cell? ⟨w1.heap.size, 4, none⟩ = some (.int .i64 x2.of) := Cbwr.out 4
      have fb5 : wr.cell? ⟨w1.heap.size, 5, none⟩ = some (.int .i64 x2.grid) := Cbwr.out 5
      have fb6 : wr.cell? ⟨w1.heap.size, 6, none⟩ = some (.slice A4 x2.cells.length c4) := Cbwr.out 6
      have fb7 : wr.cell? ⟨w1.heap.size, 7, none⟩ = some (.bool x2.wd) := Cbwr.out 7
      have fb8 : wr.cell? ⟨w1.heap.size, 8, none⟩ = some (.int .i64 x2.before) := Cbwr.out 8
      go_wp2_with fail
      refine (Withdraw_is a A c t x3 k3 _ HV3.out (HA.out.below (Hwr.out.trans (by repeat (first | exact Below.refl _ _ | refine below_setCells (by first | omega | (simp; done) | (simp; omega)) _ _ _ _ ?_ | refine below_drewN ?_ _ | refine Below.drew ?_ | refine Below.alloc ?_ (by first | omega | (simp; done) | (simp; omega)) _)))) (HR.out.below (Hwr.out.trans (by repeat (first | exact Below.refl _ _ | refine below_setCells (by first | omega | (simp; done) | (simp; omega)) _ _ _ _ ?_ | refine below_drewN ?_ _ | refine Below.drew ?_ | refine Below.alloc ?_ (by first | omega | (simp; done) | (simp; omega)) _))))).mono ?_
      rintro e w8 ⟨A8, c8, rfl, ho, hb⟩
      have r8w8 : Hid (ARow w8 wr.heap.size x3 A8 c8) := own_more ho (by first | omega | (simp; done) | (simp; omega))
      clear ho
      clear la li lb lc
      clear fa0 fa1 fa2 fa3 fa4 fa5 fa6 fa7 fa8 fi0 fi1 fi2 fi3 fi4 fi5 fi6 fi7 fi8 fi9 fb0 fb1 fb2 fb3 fb4 fb5 fb6 fb7 fb8
      have Qw8 : Hid (Below wr.heap.size wr w8) := (show Below wr.heap.size wr _ from (by repeat (first | exact Below.refl _ _ | refine below_setCells (by first | omega | (simp; done) | (simp; omega)) _ _ _ _ ?_ | refine below_drewN ?_ _ | refine Below.drew ?_ | refine Below.alloc ?_ (by first | omega | (simp; done) | (simp; omega)) _))).trans (hb.mono (by first | omega | (simp; done) | (simp; omega)))
      have Hw8 : Hid (Below w.heap.size w w8) := Hwr.out.trans (Qw8.out.mono Hwr.out.size)
      have zw8 : wr.heap.size ≤ w8.heap.size := Qw8.out.size
      have Caw8 : Hid (CellsAt w8 w.heap.size [.string a.ev, .int .i64 a.ver, .int .i64 a.tm, .int .i64 a.n, .int .i64 a.of, .int .i64 a.grid, .slice A a.cells.length c, .bool a.wd, .int .i64 a.before]) := Cawr.out.below Qw8.out (by omega)
      clear Cawr
      have Ciw8 : Hid (CellsAt w8 (w.heap.size + 1) [.string ev, .int .i64 t, .int .i64 pa, .int .i64 pb, .int .i64 pl, .int .i64 cn, .int .i64 co, .int .i64 lim, .int .i64 g, .slice D l.length dc]) := Ciwr.out.below Qw8.out (by omega)
      clear Ciwr
      have Cbw8 : Hid (CellsAt w8 w1.heap.size [.string x2.ev, .int .i64 x2.ver, .int .i64 x2.tm, .int .i64 x2.n, .int .i64 x2.of, .int .i64 x2.grid, .slice A4 x2.cells.length c4, .bool x2.wd, .int .i64 x2.before]) := Cbwr.out.below Qw8.out (by omega)
      clear Cbwr
      have Gbw8 : Hid (FreeAt w8 w1.heap.size) := Gbwr.out.below Qw8.out (by omega)
      clear Gbwr
      have Ccw8 : Hid (CellsAt w8 w2.heap.size [.string x2.ev, .int .i64 x2.ver, .int .i64 x2.tm, .int .i64 x2.n, .int .i64 x2.of, .int .i64 x2.grid, .slice A5 x2.cells.length c5, .bool x2.wd, .int .i64 x2.before]) := Ccwr.out.below Qw8.out (by omega)
      clear Ccwr
      have Gcw8 : Hid (FreeAt w8 w2.heap.size) := Gcwr.out.below Qw8.out (by omega)
      clear Gcwr
      have r7w8 : Hid (World.ownsRow w8 w6.heap.size 3 1 (.slice A7 l.length c7) l.length (ints l)) := own_below r7wr.out (Nat.le_refl _) Qw8.out
      clear r7wr
      clear hb
      have la : w.heap.size < w8.heap.size := by omega
      have li : (w.heap.size + 1) < w8.heap.size := by omega
      have lb : w1.heap.size < w8.heap.size := by omega
      have lc : w2.heap.size < w8.heap.size := by omega
      have fb0 : w8.cell? ⟨w1.heap.size, 0, none⟩ = some (.string x2.ev) := Cbw8.out 0
      have gb0 : w8.frozen? ⟨w1.heap.size, 0, none⟩ = false := Gbw8.out 0
      have fb1 : w8.cell? ⟨w1.heap.size, 1, none⟩ = some (.int .i64 x2.ver) := Cbw8.out 1
      have gb1 : w8.frozen? ⟨w1.heap.size, 1, none⟩ = false := Gbw8.out 1
      have fb2 : w8.cell? ⟨w1.heap.size, 2, none⟩ = some (.int .i64 x2.tm) := Cbw8.out 2
      have gb2 : w8.frozen? ⟨w1.heap.size, 2, none⟩ = false := Gbw8.out 2
      have fb3 : w8.cell? ⟨w1.heap.size, 3, none⟩ = some (.int .i64 x2.n) := Cbw8.out 3
      have gb3 : w8.frozen? ⟨w1.heap.size, 3, none⟩ = false := Gbw8.out 3
      have fb4 : w8.cell? ⟨w1.heap.size, 4, none⟩ = some (.int .i64 x2.of) := Cbw8.out 4
      have gb4 : w8.frozen? ⟨w1.heap.size, 4, none⟩ = false := Gbw8.out 4
      have fb5 : w8.cell? ⟨w1.heap.size, 5, none⟩ = some (.int .i64 x2.grid) := Cbw8.out 5
      have gb5 : w8.frozen? ⟨w1.heap.size, 5, none⟩ = false := Gbw8.out 5
      have fb6 : w8.cell? ⟨w1.heap.size, 6, none⟩ = some (.slice A4 x2.cells.length c4) := Cbw8.out 6
      have gb6 : w8.frozen? ⟨w1.heap.size, 6, none⟩ = false := Gbw8.out 6
      have fb7 : w8.cell? ⟨w1.heap.size, 7, none⟩ = some (.bool x2.wd) := Cbw8.out 7
      have gb7 : w8.frozen? ⟨w1.heap.size, 7, none⟩ = false := Gbw8.out 7
      have fb8 : w8.cell? ⟨w1.heap.size, 8, none⟩ = some (.int .i64 x2.before) := Cbw8.out 8
      have gb8 : w8.frozen? ⟨w1.heap.size, 8, none⟩ = false := Gbw8.out 8
      have fa0 : w8.cell? ⟨w.heap.size, 0, none⟩ = some (.string a.ev) := Caw8.out 0
      have fa1 : w8.cell? ⟨w.heap.size, 1, none⟩ = some (.int .i64 a.ver) := Caw8.out 1
      have fa2 : w8.cell? ⟨w.heap.size, 2, none⟩ = some (.int .i64 a.tm) := Caw8.out 2
      have fa3 : w8.cell? ⟨w.heap.size, 3, none⟩ = some (.int .i64 a.n) := Caw8.out 3
      have fa4 : w8.cell? ⟨w.heap.size, 4, none⟩ = some (.int .i64 a.of) := Caw8.out 4
      have fa5 : w8.cell? ⟨w.heap.size, 5, none⟩ = some (.int .i64 a.grid) := Caw8.out 5
      have fa6 : w8.cell? ⟨w.heap.size, 6, none⟩ = some (.slice A a.cells.length c) := Caw8.out 6
      have fa7 : w8.cell? ⟨w.heap.size, 7, none⟩ = some (.bool a.wd) := Caw8.out 7
      have fa8 : w8.cell? ⟨w.heap.size, 8, none⟩ = some (.int .i64 a.before) := Caw8.out 8
      have fi0 : w8.cell? ⟨(w.heap.size + 1), 0, none⟩ = some (.string ev) := Ciw8.out 0
      have fi1 : w8.cell? ⟨(w.heap.size + 1), 1, none⟩ = some (.int .i64 t) := Ciw8.out 1
      have fi2 : w8.cell? ⟨(w.heap.size + 1), 2, none⟩ = some (.int .i64 pa) := Ciw8.out 2
      have fi3 : w8.cell? ⟨(w.heap.size + 1), 3, none⟩ = some (.int .i64 pb) := Ciw8.out 3
      have fi4 : w8.cell? ⟨(w.heap.size + 1), 4, none⟩ = some (.int .i64 pl) := Ciw8.out 4
      have fi5 : w8.cell? ⟨(w.heap.size + 1), 5, none⟩ = some (.int .i64 cn) := Ciw8.out 5
      have fi6 : w8.cell? ⟨(w.heap.size + 1), 6, none⟩ = some (.int .i64 co) := Ciw8.out 6
      have fi7 : w8.cell? ⟨(w.heap.size + 1), 7, none⟩ = some (.int .i64 lim) := Ciw8.out 7
      have fi8 : w8.cell? ⟨(w.heap.size + 1), 8, none⟩ = some (.int .i64 g) := Ciw8.out 8
      have fi9 : w8.cell? ⟨(w.heap.size + 1), 9, none⟩ = some (.slice D l.length dc) := Ciw8.out 9
      go_wp2_with fail
      clear fb0 gb0 fb1 gb1 fb2 gb2 fb3 gb3 fb4 gb4 fb5 gb5 fb6 gb6 fb7 gb7 fb8 gb8 fa0 fa1 fa2 fa3 fa4 fa5 fa6 fa7 fa8 fi0 fi1 fi2 fi3 fi4 fi5 fi6 fi7 fi8 fi9
      obtain ⟨s8, hs8⟩ : ∃ W, W = (w8.setCells w1.heap.size 0 [.string x3.ev, .int .i64 x3.ver, .int .i64 x3.tm, .int .i64 x3.n, .int .i64 x3.of, .int .i64 x3.grid, .slice A8 x3.cells.length c8, .bool x3.wd, .int .i64 x3.before]) := ⟨_, rfl⟩
      refine calls_at ?_ hs8.symm
      have zs8 : s8.heap.size = w8.heap.size := by rw [hs8]; exact setc_size _ _ _ _
      have Cas8 : Hid (CellsAt s8 w.heap.size [.string a.ev, .int .i64 a.ver, .int .i64 a.tm, .int .i64 a.n, .int .i64 a.of, .int .i64 a.grid, .slice A a.cells.length c, .bool a.wd, .int .i64 a.before]) := by rw [hs8]; exact Caw8.out.setOther (by omega) _
      clear Caw8
      have Cis8 : Hid (CellsAt s8 (w.heap.size + 1) [.string ev, .int .i64 t, .int .i64 pa, .int .i64 pb, .int .i64 pl, .int .i64 cn, .int .i64 co, .int .i64 lim, .int .i64 g, .slice D l.length dc]) := by rw [hs8]; exact Ciw8.out.setOther (by omega) _
      clear Ciw8
      have Cbs8 : Hid (CellsAt s8 w1.heap.size [.string x3.ev, .int .i64 x3.ver, .int .i64 x3.tm, .int .i64 x3.n, .int .i64 x3.of, .int .i64 x3.grid, .slice A8 x3.cells.length c8, .bool x3.wd, .int .i64 x3.before]) := by rw [hs8]; exact Cbw8.out.set rfl
      clear Cbw8
      have Gbs8 : Hid (FreeAt s8 w1.heap.size) := by rw [hs8]; exact Gbw8.out.set _ _ _
      clear Gbw8
      have Ccs8 : Hid (CellsAt s8 w2.heap.size [.string x2.ev, .int .i64 x2.ver, .int .i64 x2.tm, .int .i64 x2.n, .int .i64 x2.of, .int .i64 x2.grid, .slice A5 x2.cells.length c5, .bool x2.wd, .int .i64 x2.before]) := by rw [hs8]; exact Ccw8.out.setOther (by omega) _
      clear Ccw8
      have Gcs8 : Hid (FreeAt s8 w2.heap.size) := by rw [hs8]; exact Gcw8.out.set _ _ _
      clear Gcw8
      have r7s8 : Hid (World.ownsRow s8 w6.heap.size 3 1 (.slice A7 l.length c7) l.length (ints l)) := by rw [hs8]; exact own_setCells (by omega) _ _ _ r7w8.out
      clear r7w8
      have r8s8 : Hid (ARow s8 wr.heap.size x3 A8 c8) := by rw [hs8]; exact own_setCells (by omega) _ _ _ r8w8.out
      clear r8w8
      have Hs8 : Hid (Below w.heap.size w s8) := by rw [hs8]; exact below_setCells (by omega) _ _ _ _ Hw8.out
      clear la li lb lc
      have la : w.heap.size < s8.heap.size := by omega
      have li : (w.heap.size + 1) < s8.heap.size := by omega
      have lb : w1.heap.size < s8.heap.size := by omega
      have lc : w2.heap.size < s8.heap.size := by omega
      clear hs8
      refine (rWithdraw_is a A c t x3 k3 s8 HV3.out (HA.out.below (Hs8.out.trans (by repeat (first | exact Below.refl _ _ | refine below_setCells (by first | omega | (simp; done) | (simp; omega)) _ _ _ _ ?_ | refine below_drewN ?_ _ | refine Below.drew ?_ | refine Below.alloc ?_ (by first | omega | (simp; done) | (simp; omega)) _))))).mono ?_
      rintro e w9 ⟨A9, c9, rfl, ho, hb⟩
      have r9w9 : Hid (ARow w9 s8.heap.size x3 A9 c9) := own_more ho (by first | omega | (simp; done) | (simp; omega))
      clear ho
      clear la li lb lc
      have Qw9 : Hid (Below s8.heap.size s8 w9) := (show Below s8.heap.size s8 _ from (by repeat (first | exact Below.refl _ _ | refine below_setCells (by first | omega | (simp; done) | (simp; omega)) _ _ _ _ ?_ | refine below_drewN ?_ _ | refine Below.drew ?_ | refine Below.alloc ?_ (by first | omega | (simp; done) | (simp; omega)) _))).trans (hb.mono (by first | omega | (simp; done) | (simp; omega)))
      have Hw9 : Hid (Below w.heap.size w w9) := Hs8.out.trans (Qw9.out.mono Hs8.out.size)
      have zw9 : s8.heap.size ≤ w9.heap.size := Qw9.out.size
      have Caw9 : Hid (CellsAt w9 w.heap.size [.string a.ev, .int .i64 a.ver, .int .i64 a.tm, .int .i64 a.n, .int .i64 a.of, .int .i64 a.grid, .slice A a.cells.length c, .bool a.wd, .int .i64 a.before]) := Cas8.out.below Qw9.out (by omega)
      clear Cas8
      have Ciw9 : Hid (CellsAt w9 (w.heap.size + 1) [.string ev, .int .i64 t, .int .i64 pa, .int .i64 pb, .int .i64 pl, .int .i64 cn, .int .i64 co, .int .i64 lim, .int .i64 g, .slice D l.length dc]) := Cis8.out.below Qw9.out (by omega)
      clear Cis8
      have Cbw9 : Hid (CellsAt w9 w1.heap.size [.string x3.ev, .int .i64 x3.ver, .int .i64 x3.tm, .int .i64 x3.n, .int .i64 x3.of, .int .i64 x3.grid, .slice A8 x3.cells.length c8, .bool x3.wd, .int .i64 x3.before]) := Cbs8.out.below Qw9.out (by omega)
      clear Cbs8
      have Gbw9 : Hid (FreeAt w9 w1.heap.size) := Gbs8.out.below Qw9.out (by omega)
      clear Gbs8
      have Ccw9 : Hid (CellsAt w9 w2.heap.size [.string x2.ev, .int .i64 x2.ver, .int .i64 x2.tm, .int .i64 x2.n, .int .i64 x2.of, .int .i64 x2.grid, .slice A5 x2.cells.length c5, .bool x2.wd, .int .i64 x2.before]) := Ccs8.out.below Qw9.out (by omega)
      clear Ccs8
      have Gcw9 : Hid (FreeAt w9 w2.heap.size) := Gcs8.out.below Qw9.out (by omega)
      clear Gcs8
      have r7w9 : Hid (World.ownsRow w9 w6.heap.size 3 1 (.slice A7 l.length c7) l.length (ints l)) := own_below r7s8.out (Nat.le_refl _) Qw9.out
      clear r7s8
      have r8w9 : Hid (ARow w9 wr.heap.size x3 A8 c8) := own_below r8s8.out (Nat.le_refl _) Qw9.out
      clear r8s8
      clear hb
      have la : w.heap.size < w9.heap.size := by omega
      have li : (w.heap.size + 1) < w9.heap.size := by omega
      have lb : w1.heap.size < w9.heap.size := by omega
      have lc : w2.heap.size < w9.heap.size := by omega
      have fc0 : w9.cell? ⟨w2.heap.size, 0, none⟩ = some (.string x2.ev) := Ccw9.out 0
      have gc0 : w9.frozen? ⟨w2.heap.size, 0, none⟩ = false := Gcw9.out 0
      have fc1 : w9.cell? ⟨w2.heap.size, 1, none⟩ = some (.int .i64 x2.ver) := Ccw9.out 1
      have gc1 : w9.frozen? ⟨w2.heap.size, 1, none⟩ = false := Gcw9.out 1
      have fc2 : w9.cell? ⟨w2.heap.size, 2, none⟩ = some (.int .i64 x2.tm) := Ccw9.out 2
      have gc2 : w9.frozen? ⟨w2.heap.size, 2, none⟩ = false := Gcw9.out 2
      have fc3 : w9.cell? ⟨w2.heap.size, 3, none⟩ = some (.int .i64 x2.n) := Ccw9.out 3
      have gc3 : w9.frozen? ⟨w2.heap.size, 3, none⟩ = false := Gcw9.out 3
      have fc4 : w9.cell? ⟨w2.heap.size, 4, none⟩ = some (.int .i64 x2.of) := Ccw9.out 4
      have gc4 : w9.frozen? ⟨w2.heap.size, 4, none⟩ = false := Gcw9.out 4
      have fc5 : w9.cell? ⟨w2.heap.size, 5, none⟩ = some (.int .i64 x2.grid) := Ccw9.out 5
      have gc5 : w9.frozen? ⟨w2.heap.size, 5, none⟩ = false := Gcw9.out 5
      have fc6 : w9.cell? ⟨w2.heap.size, 6, none⟩ = some (.slice A5 x2.cells.length c5) := Ccw9.out 6
      have gc6 : w9.frozen? ⟨w2.heap.size, 6, none⟩ = false := Gcw9.out 6
      have fc7 : w9.cell? ⟨w2.heap.size, 7, none⟩ = some (.bool x2.wd) := Ccw9.out 7
      have gc7 : w9.frozen? ⟨w2.heap.size, 7, none⟩ = false := Gcw9.out 7
      have fc8 : w9.cell? ⟨w2.heap.size, 8, none⟩ = some (.int .i64 x2.before) := Ccw9.out 8
      have gc8 : w9.frozen? ⟨w2.heap.size, 8, none⟩ = false := Gcw9.out 8
      have fn0 : (w9.setCells w2.heap.size 0 [.string x3.ev, .int .i64 x3.ver, .int .i64 x3.tm, .int .i64 x3.n, .int .i64 x3.of, .int .i64 x3.grid, .slice A9 x3.cells.length c9, .bool x3.wd, .int .i64 x3.before]).cell? ⟨w2.heap.size, 0, none⟩ = some (.string x3.ev) := (Ccw9.out.set (us := [.string x3.ev, .int .i64 x3.ver, .int .i64 x3.tm, .int .i64 x3.n, .int .i64 x3.of, .int .i64 x3.grid, .slice A9 x3.cells.length c9, .bool x3.wd, .int .i64 x3.before]) rfl) 0
      have fn1 : (w9.setCells w2.heap.size 0 [.string x3.ev, .int .i64 x3.ver, .int .i64 x3.tm, .int .i64 x3.n, .int .i64 x3.of, .int .i64 x3.grid, .slice A9 x3.cells.length c9, .bool x3.wd, .int .i64 x3.before]).cell? ⟨w2.heap.size, 1, none⟩ = some (.int .i64 x3.ver) := (Ccw9.out.set (us := [.string x3.ev, .int .i64 x3.ver, .int .i64 x3.tm, .int .i64 x3.n, .int .i64 x3.of, .int .i64 x3.grid, .slice A9 x3.cells.length c9, .bool x3.wd, .int .i64 x3.before]) rfl) 1
      have fn2 : (w9.setCells w2.heap.size 0 [.string x3.ev, .int .i64 x3.ver, .int .i64 x3.tm, .int .i64 x3.n, .int .i64 x3.of, .int .i64 x3.grid, .slice A9 x3.cells.length c9, .bool x3.wd, .int .i64 x3.before]).cell? ⟨w2.heap.size, 2, none⟩ = some (.int .i64 x3.tm) := (Ccw9.out.set (us := [.string x3.ev, .int .i64 x3.ver, .int .i64 x3.tm, .int .i64 x3.n, .int .i64 x3.of, .int .i64 x3.grid, .slice A9 x3.cells.length c9, .bool x3.wd, .int .i64 x3.before]) rfl) 2
      have fn3 : (w9.setCells w2.heap.size 0 [.string x3.ev, .int .i64 x3.ver, .int .i64 x3.tm, .int .i64 x3.n, .int .i64 x3.of, .int .i64 x3.grid, .slice A9 x3.cells.length c9, .bool x3.wd, .int .i64 x3.before]).cell? ⟨w2.heap.size, 3, none⟩ = some (.int .i64 x3.n) := (Ccw9.out.set (us := [.string x3.ev, .int .i64 x3.ver, .int .i64 x3.tm, .int .i64 x3.n, .int .i64 x3.of, .int .i64 x3.grid, .slice A9 x3.cells.length c9, .bool x3.wd, .int .i64 x3.before]) rfl) 3
      have fn4 : (w9.setCells w2.heap.size 0 [.string x3.ev, .int .i64 x3.ver, .int .i64 x3.tm, .int .i64 x3.n, .int .i64 x3.of, .int .i64 x3.grid, .slice A9 x3.cells.length c9, .bool x3.wd, .int .i64 x3.before]).cell? ⟨w2.heap.size, 4, none⟩ = some (.int .i64 x3.of) := (Ccw9.out.set (us := [.string x3.ev, .int .i64 x3.ver, .int .i64 x3.tm, .int .i64 x3.n, .int .i64 x3.of, .int .i64 x3.grid, .slice A9 x3.cells.length c9, .bool x3.wd, .int .i64 x3.before]) rfl) 4
      have fn5 : (w9.setCells w2.heap.size 0 [.string x3.ev, .int .i64 x3.ver, .int .i64 x3.tm, .int .i64 x3.n, .int .i64 x3.of, .int .i64 x3.grid, .slice A9 x3.cells.length c9, .bool x3.wd, .int .i64 x3.before]).cell? ⟨w2.heap.size, 5, none⟩ = some (.int .i64 x3.grid) := (Ccw9.out.set (us := [.string x3.ev, .int .i64 x3.ver, .int .i64 x3.tm, .int .i64 x3.n, .int .i64 x3.of, .int .i64 x3.grid, .slice A9 x3.cells.length c9, .bool x3.wd, .int .i64 x3.before]) rfl) 5
      have fn6 : (w9.setCells w2.heap.size 0 [.string x3.ev, .int .i64 x3.ver, .int .i64 x3.tm, .int .i64 x3.n, .int .i64 x3.of, .int .i64 x3.grid, .slice A9 x3.cells.length c9, .bool x3.wd, .int .i64 x3.before]).cell? ⟨w2.heap.size, 6, none⟩ = some (.slice A9 x3.cells.length c9) := (Ccw9.out.set (us := [.string x3.ev, .int .i64 x3.ver, .int .i64 x3.tm, .int .i64 x3.n, .int .i64 x3.of, .int .i64 x3.grid, .slice A9 x3.cells.length c9, .bool x3.wd, .int .i64 x3.before]) rfl) 6
      have fn7 : (w9.setCells w2.heap.size 0 [.string x3.ev, .int .i64 x3.ver, .int .i64 x3.tm, .int .i64 x3.n, .int .i64 x3.of, .int .i64 x3.grid, .slice A9 x3.cells.length c9, .bool x3.wd, .int .i64 x3.before]).cell? ⟨w2.heap.size, 7, none⟩ = some (.bool x3.wd) := (Ccw9.out.set (us := [.string x3.ev, .int .i64 x3.ver, .int .i64 x3.tm, .int .i64 x3.n, .int .i64 x3.of, .int .i64 x3.grid, .slice A9 x3.cells.length c9, .bool x3.wd, .int .i64 x3.before]) rfl) 7
      have fn8 : (w9.setCells w2.heap.size 0 [.string x3.ev, .int .i64 x3.ver, .int .i64 x3.tm, .int .i64 x3.n, .int .i64 x3.of, .int .i64 x3.grid, .slice A9 x3.cells.length c9, .bool x3.wd, .int .i64 x3.before]).cell? ⟨w2.heap.size, 8, none⟩ = some (.int .i64 x3.before) := (Ccw9.out.set (us := [.string x3.ev, .int .i64 x3.ver, .int .i64 x3.tm, .int .i64 x3.n, .int .i64 x3.of, .int .i64 x3.grid, .slice A9 x3.cells.length c9, .bool x3.wd, .int .i64 x3.before]) rfl) 8
      have fb0 : w9.cell? ⟨w1.heap.size, 0, none⟩ = some (.string x3.ev) := Cbw9.out 0
      have fb1 : w9.cell? ⟨w1.heap.size, 1, none⟩ = some (.int .i64 x3.ver) := Cbw9.out 1
      have fb2 : w9.cell? ⟨w1.heap.size, 2, none⟩ = some (.int .i64 x3.tm) := Cbw9.out 2
      have fb3 : w9.cell? ⟨w1.heap.size, 3, none⟩ = some (.int .i64 x3.n) := Cbw9.out 3
      have fb4 : w9.cell? ⟨w1.heap.size, 4, none⟩ = some (.int .i64 x3.of) := Cbw9.out 4
      have fb5 : w9.cell? ⟨w1.heap.size, 5, none⟩ = some (.int .i64 x3.grid) := Cbw9.out 5
      have fb6 : w9.cell? ⟨w1.heap.size, 6, none⟩ = some (.slice A8 x3.cells.length c8) := Cbw9.out 6
      have fb7 : w9.cell? ⟨w1.heap.size, 7, none⟩ = some (.bool x3.wd) := Cbw9.out 7
      have fb8 : w9.cell? ⟨w1.heap.size, 8, none⟩ = some (.int .i64 x3.before) := Cbw9.out 8
      go_wp2_with fail
      clear fc0 gc0 fc1 gc1 fc2 gc2 fc3 gc3 fc4 gc4 fc5 gc5 fc6 gc6 fc7 gc7 fc8 gc8 fn0 fn1 fn2 fn3 fn4 fn5 fn6 fn7 fn8 fb0 fb1 fb2 fb3 fb4 fb5 fb6 fb7 fb8
      obtain ⟨s9, hs9⟩ : ∃ W, W = (w9.setCells w2.heap.size 0 [.string x3.ev, .int .i64 x3.ver, .int .i64 x3.tm, .int .i64 x3.n, .int .i64 x3.of, .int .i64 x3.grid, .slice A9 x3.cells.length c9, .bool x3.wd, .int .i64 x3.before]) := ⟨_, rfl⟩
      refine calls_at ?_ hs9.symm
      have zs9 : s9.heap.size = w9.heap.size := by rw [hs9]; exact setc_size _ _ _ _
      have Cas9 : Hid (CellsAt s9 w.heap.size [.string a.ev, .int .i64 a.ver, .int .i64 a.tm, .int .i64 a.n, .int .i64 a.of, .int .i64 a.grid, .slice A a.cells.length c, .bool a.wd, .int .i64 a.before]) := by rw [hs9]; exact Caw9.out.setOther (by omega) _
      clear Caw9
      have Cis9 : Hid (CellsAt s9 (w.heap.size + 1) [.string ev, .int .i64 t, .int .i64 pa, .int .i64 pb, .int .i64 pl, .int .i64 cn, .int .i64 co, .int .i64 lim, .int .i64 g, .slice D l.length dc]) := by rw [hs9]; exact Ciw9.out.setOther (by omega) _
      clear Ciw9
      have Cbs9 : Hid (CellsAt s9 w1.heap.size [.string x3.ev, .int .i64 x3.ver, .int .i64 x3.tm, .int .i64 x3.n, .int .i64 x3.of, .int .i64 x3.grid, .slice A8 x3.cells.length c8, .bool x3.wd, .int .i64 x3.before]) := by rw [hs9]; exact Cbw9.out.setOther (by omega) _
      clear Cbw9
      have Gbs9 : Hid (FreeAt s9 w1.heap.size) := by rw [hs9]; exact Gbw9.out.set _ _ _
      clear Gbw9
      have Ccs9 : Hid (CellsAt s9 w2.heap.size [.string x3.ev, .int .i64 x3.ver, .int .i64 x3.tm, .int .i64 x3.n, .int .i64 x3.of, .int .i64 x3.grid, .slice A9 x3.cells.length c9, .bool x3.wd, .int .i64 x3.before]) := by rw [hs9]; exact Ccw9.out.set rfl
      clear Ccw9
      have Gcs9 : Hid (FreeAt s9 w2.heap.size) := by rw [hs9]; exact Gcw9.out.set _ _ _
      clear Gcw9
      have r7s9 : Hid (World.ownsRow s9 w6.heap.size 3 1 (.slice A7 l.length c7) l.length (ints l)) := by rw [hs9]; exact own_setCells (by omega) _ _ _ r7w9.out
      clear r7w9
      have r8s9 : Hid (ARow s9 wr.heap.size x3 A8 c8) := by rw [hs9]; exact own_setCells (by omega) _ _ _ r8w9.out
      clear r8w9
      have r9s9 : Hid (ARow s9 s8.heap.size x3 A9 c9) := by rw [hs9]; exact own_setCells (by omega) _ _ _ r9w9.out
      clear r9w9
      have Hs9 : Hid (Below w.heap.size w s9) := by rw [hs9]; exact below_setCells (by omega) _ _ _ _ Hw9.out
      clear la li lb lc
      have la : w.heap.size < s9.heap.size := by omega
      have li : (w.heap.size + 1) < s9.heap.size := by omega
      have lb : w1.heap.size < s9.heap.size := by omega
      have lc : w2.heap.size < s9.heap.size := by omega
      clear hs9
      refine (same_is x3 x3 A8 c8 A9 c9 s9 ((own_in hev3 r8s9.out).below (by repeat (first | exact Below.refl _ _ | refine below_setCells (by first | omega | (simp; done) | (simp; omega)) _ _ _ _ ?_ | refine below_drewN ?_ _ | refine Below.drew ?_ | refine Below.alloc ?_ (by first | omega | (simp; done) | (simp; omega)) _))) ((own_in hev3 r9s9.out).below (by repeat (first | exact Below.refl _ _ | refine below_setCells (by first | omega | (simp; done) | (simp; omega)) _ _ _ _ ?_ | refine below_drewN ?_ _ | refine Below.drew ?_ | refine Below.alloc ?_ (by first | omega | (simp; done) | (simp; omega)) _))) true (sameB_refl x3)).mono ?_
      rintro e w10 ⟨rfl, hb⟩
      clear la li lb lc
      have Qw10 : Hid (Below s9.heap.size s9 w10) := (show Below s9.heap.size s9 _ from (by repeat (first | exact Below.refl _ _ | refine below_setCells (by first | omega | (simp; done) | (simp; omega)) _ _ _ _ ?_ | refine below_drewN ?_ _ | refine Below.drew ?_ | refine Below.alloc ?_ (by first | omega | (simp; done) | (simp; omega)) _))).trans (hb.mono (by first | omega | (simp; done) | (simp; omega)))
      have Hw10 : Hid (Below w.heap.size w w10) := Hs9.out.trans (Qw10.out.mono Hs9.out.size)
      have zw10 : s9.heap.size ≤ w10.heap.size := Qw10.out.size
      have Caw10 : Hid (CellsAt w10 w.heap.size [.string a.ev, .int .i64 a.ver, .int .i64 a.tm, .int .i64 a.n, .int .i64 a.of, .int .i64 a.grid, .slice A a.cells.length c, .bool a.wd, .int .i64 a.before]) := Cas9.out.below Qw10.out (by omega)
      clear Cas9
      have Ciw10 : Hid (CellsAt w10 (w.heap.size + 1) [.string ev, .int .i64 t, .int .i64 pa, .int .i64 pb, .int .i64 pl, .int .i64 cn, .int .i64 co, .int .i64 lim, .int .i64 g, .slice D l.length dc]) := Cis9.out.below Qw10.out (by omega)
      clear Cis9
      have Cbw10 : Hid (CellsAt w10 w1.heap.size [.string x3.ev, .int .i64 x3.ver, .int .i64 x3.tm, .int .i64 x3.n, .int .i64 x3.of, .int .i64 x3.grid, .slice A8 x3.cells.length c8, .bool x3.wd, .int .i64 x3.before]) := Cbs9.out.below Qw10.out (by omega)
      clear Cbs9
      have Gbw10 : Hid (FreeAt w10 w1.heap.size) := Gbs9.out.below Qw10.out (by omega)
      clear Gbs9
      have Ccw10 : Hid (CellsAt w10 w2.heap.size [.string x3.ev, .int .i64 x3.ver, .int .i64 x3.tm, .int .i64 x3.n, .int .i64 x3.of, .int .i64 x3.grid, .slice A9 x3.cells.length c9, .bool x3.wd, .int .i64 x3.before]) := Ccs9.out.below Qw10.out (by omega)
      clear Ccs9
      have Gcw10 : Hid (FreeAt w10 w2.heap.size) := Gcs9.out.below Qw10.out (by omega)
      clear Gcs9
      have r7w10 : Hid (World.ownsRow w10 w6.heap.size 3 1 (.slice A7 l.length c7) l.length (ints l)) := own_below r7s9.out (Nat.le_refl _) Qw10.out
      clear r7s9
      have r8w10 : Hid (ARow w10 wr.heap.size x3 A8 c8) := own_below r8s9.out (Nat.le_refl _) Qw10.out
      clear r8s9
      have r9w10 : Hid (ARow w10 s8.heap.size x3 A9 c9) := own_below r9s9.out (Nat.le_refl _) Qw10.out
      clear r9s9
      clear hb
      have la : w.heap.size < w10.heap.size := by omega
      have li : (w.heap.size + 1) < w10.heap.size := by omega
      have lb : w1.heap.size < w10.heap.size := by omega
      have lc : w2.heap.size < w10.heap.size := by omega
      have fi0 : w10.cell? ⟨(w.heap.size + 1), 0, none⟩ = some (.string ev) := Ciw10.out 0
      have fi1 : w10.cell? ⟨(w.heap.size + 1), 1, none⟩ = some (.int .i64 t) := Ciw10.out 1
      have fi2 : w10.cell? ⟨(w.heap.size + 1), 2, none⟩ = some (.int .i64 pa) := Ciw10.out 2
      have fi3 : w10.cell? ⟨(w.heap.size + 1), 3, none⟩ = some (.int .i64 pb) := Ciw10.out 3
      have fi4 : w10.cell? ⟨(w.heap.size + 1), 4, none⟩ = some (.int .i64 pl) := Ciw10.out 4
      have fi5 : w10.cell? ⟨(w.heap.size + 1), 5, none⟩ = some (.int .i64 cn) := Ciw10.out 5
      have fi6 : w10.cell? ⟨(w.heap.size + 1), 6, none⟩ = some (.int .i64 co) := Ciw10.out 6
      have fi7 : w10.cell? ⟨(w.heap.size + 1), 7, none⟩ = some (.int .i64 lim) := Ciw10.out 7
      have fi8 : w10.cell? ⟨(w.heap.size + 1), 8, none⟩ = some (.int .i64 g) := Ciw10.out 8
      have fi9 : w10.cell? ⟨(w.heap.size + 1), 9, none⟩ = some (.slice D l.length dc) := Ciw10.out 9
      go_wp2_with fail
      refine (SameInts_is l l A7 c7 D dc _ true (beq_self_eq_true l) ((Sl.of_own r7w10.out).below (by repeat (first | exact Below.refl _ _ | refine below_setCells (by first | omega | (simp; done) | (simp; omega)) _ _ _ _ ?_ | refine below_drewN ?_ _ | refine Below.drew ?_ | refine Below.alloc ?_ (by first | omega | (simp; done) | (simp; omega)) _)) |>.more (by simp)) ((HL.out.below (Hw10.out.trans (by repeat (first | exact Below.refl _ _ | refine below_setCells (by first | omega | (simp; done) | (simp; omega)) _ _ _ _ ?_ | refine below_drewN ?_ _ | refine Below.drew ?_ | refine Below.alloc ?_ (by first | omega | (simp; done) | (simp; omega)) _)))).more (by have := Hw10.out.size; first | omega | (simp; omega)))).mono ?_
      rintro e w11 ⟨rfl, hb⟩
      clear la li lb lc
      clear fi0 fi1 fi2 fi3 fi4 fi5 fi6 fi7 fi8 fi9
      have Qw11 : Hid (Below w10.heap.size w10 w11) := (show Below w10.heap.size w10 _ from (by repeat (first | exact Below.refl _ _ | refine below_setCells (by first | omega | (simp; done) | (simp; omega)) _ _ _ _ ?_ | refine below_drewN ?_ _ | refine Below.drew ?_ | refine Below.alloc ?_ (by first | omega | (simp; done) | (simp; omega)) _))).trans (hb.mono (by first | omega | (simp; done) | (simp; omega)))
      have Hw11 : Hid (Below w.heap.size w w11) := Hw10.out.trans (Qw11.out.mono Hw10.out.size)
      have zw11 : w10.heap.size ≤ w11.heap.size := Qw11.out.size
      have Caw11 : Hid (CellsAt w11 w.heap.size [.string a.ev, .int .i64 a.ver, .int .i64 a.tm, .int .i64 a.n, .int .i64 a.of, .int .i64 a.grid, .slice A a.cells.length c, .bool a.wd, .int .i64 a.before]) := Caw10.out.below Qw11.out (by omega)
      clear Caw10
      have Ciw11 : Hid (CellsAt w11 (w.heap.size + 1) [.string ev, .int .i64 t, .int .i64 pa, .int .i64 pb, .int .i64 pl, .int .i64 cn, .int .i64 co, .int .i64 lim, .int .i64 g, .slice D l.length dc]) := Ciw10.out.below Qw11.out (by omega)
      clear Ciw10
      have Cbw11 : Hid (CellsAt w11 w1.heap.size [.string x3.ev, .int .i64 x3.ver, .int .i64 x3.tm, .int .i64 x3.n, .int .i64 x3.of, .int .i64 x3.grid, .slice A8 x3.cells.length c8, .bool x3.wd, .int .i64 x3.before]) := Cbw10.out.below Qw11.out (by omega)
      clear Cbw10
      have Gbw11 : Hid (FreeAt w11 w1.heap.size) := Gbw10.out.below Qw11.out (by omega)
      clear Gbw10
      have Ccw11 : Hid (CellsAt w11 w2.heap.size [.string x3.ev, .int .i64 x3.ver, .int .i64 x3.tm, .int .i64 x3.n, .int .i64 x3.of, .int .i64 x3.grid, .slice A9 x3.cells.length c9, .bool x3.wd, .int .i64 x3.before]) := Ccw10.out.below Qw11.out (by omega)
      clear Ccw10
      have Gcw11 : Hid (FreeAt w11 w2.heap.size) := Gcw10.out.below Qw11.out (by omega)
      clear Gcw10
      have r7w11 : Hid (World.ownsRow w11 w6.heap.size 3 1 (.slice A7 l.length c7) l.length (ints l)) := own_below r7w10.out (Nat.le_refl _) Qw11.out
      clear r7w10
      have r8w11 : Hid (ARow w11 wr.heap.size x3 A8 c8) := own_below r8w10.out (Nat.le_refl _) Qw11.out
      clear r8w10
      have r9w11 : Hid (ARow w11 s8.heap.size x3 A9 c9) := own_below r9w10.out (Nat.le_refl _) Qw11.out
      clear r9w10
      clear hb
      have la : w.heap.size < w11.heap.size := by omega
      have li : (w.heap.size + 1) < w11.heap.size := by omega
      have lb : w1.heap.size < w11.heap.size := by omega
      have lc : w2.heap.size < w11.heap.size := by omega
      go_wp2_with fail
      refine (works_ _ (HR.out.below (Hw11.out.trans (by repeat (first | exact Below.refl _ _ | refine below_setCells (by first | omega | (simp; done) | (simp; omega)) _ _ _ _ ?_ | refine below_drewN ?_ _ | refine Below.drew ?_ | refine Below.alloc ?_ (by first | omega | (simp; done) | (simp; omega)) _))))).mono ?_
      rintro e w12 ⟨rfl, hb⟩
      clear la li lb lc
      have Qw12 : Hid (Below w11.heap.size w11 w12) := (show Below w11.heap.size w11 _ from (by repeat (first | exact Below.refl _ _ | refine below_setCells (by first | omega | (simp; done) | (simp; omega)) _ _ _ _ ?_ | refine below_drewN ?_ _ | refine Below.drew ?_ | refine Below.alloc ?_ (by first | omega | (simp; done) | (simp; omega)) _))).trans (hb.mono (by first | omega | (simp; done) | (simp; omega)))
      have Hw12 : Hid (Below w.heap.size w w12) := Hw11.out.trans (Qw12.out.mono Hw11.out.size)
      have zw12 : w11.heap.size ≤ w12.heap.size := Qw12.out.size
      have Caw12 : Hid (CellsAt w12 w.heap.size [.string a.ev, .int .i64 a.ver, .int .i64 a.tm, .int .i64 a.n, .int .i64 a.of, .int .i64 a.grid, .slice A a.cells.length c, .bool a.wd, .int .i64 a.before]) := Caw11.out.below Qw12.out (by omega)
      clear Caw11
      have Ciw12 : Hid (CellsAt w12 (w.heap.size + 1) [.string ev, .int .i64 t, .int .i64 pa, .int .i64 pb, .int .i64 pl, .int .i64 cn, .int .i64 co, .int .i64 lim, .int .i64 g, .slice D l.length dc]) := Ciw11.out.below Qw12.out (by omega)
      clear Ciw11
      have Cbw12 : Hid (CellsAt w12 w1.heap.size [.string x3.ev, .int .i64 x3.ver, .int .i64 x3.tm, .int .i64 x3.n, .int .i64 x3.of, .int .i64 x3.grid, .slice A8 x3.cells.length c8, .bool x3.wd, .int .i64 x3.before]) := Cbw11.out.below Qw12.out (by omega)
      clear Cbw11
      have Gbw12 : Hid (FreeAt w12 w1.heap.size) := Gbw11.out.below Qw12.out (by omega)
      clear Gbw11
      have Ccw12 : Hid (CellsAt w12 w2.heap.size [.string x3.ev, .int .i64 x3.ver, .int .i64 x3.tm, .int .i64 x3.n, .int .i64 x3.of, .int .i64 x3.grid, .slice A9 x3.cells.length c9, .bool x3.wd, .int .i64 x3.before]) := Ccw11.out.below Qw12.out (by omega)
      clear Ccw11
      have Gcw12 : Hid (FreeAt w12 w2.heap.size) := Gcw11.out.below Qw12.out (by omega)
      clear Gcw11
      have r7w12 : Hid (World.ownsRow w12 w6.heap.size 3 1 (.slice A7 l.length c7) l.length (ints l)) := own_below r7w11.out (Nat.le_refl _) Qw12.out
      clear r7w11
      have r8w12 : Hid (ARow w12 wr.heap.size x3 A8 c8) := own_below r8w11.out (Nat.le_refl _) Qw12.out
      clear r8w11
      have r9w12 : Hid (ARow w12 s8.heap.size x3 A9 c9) := own_below r9w11.out (Nat.le_refl _) Qw12.out
      clear r9w11
      clear hb
      have la : w.heap.size < w12.heap.size := by omega
      have li : (w.heap.size + 1) < w12.heap.size := by omega
      have lb : w1.heap.size < w12.heap.size := by omega
      have lc : w2.heap.size < w12.heap.size := by omega
      go_wp2_with fail
      go_ret
      exact ⟨rfl, Hw12.out⟩

theorem cIdea : Tryd.prog.cellsOf 43 = 10 := by kernel_rfl
theorem cCand : Tryd.prog.cellsOf 41 = 5 := by kernel_rfl
theorem cPair : Tryd.prog.cellsOf 39 = 3 := by kernel_rfl
theorem list3 {l : List Value} (h : l.length = 3) : ∃ a b c, l = [a, b, c] := by
  match l, h with
  | [a, b, c], _ => exact ⟨a, b, c, rfl⟩
theorem list5 {l : List Value} (h : l.length = 5) : ∃ a b c d e, l = [a, b, c, d, e] := by
  match l, h with
  | [a, b, c, d, e], _ => exact ⟨a, b, c, d, e, rfl⟩
section
variable {H : Type} {enc : TypeId × Value → H} {w : World} {B : Nat} {cs : List Value}
set_option maxRecDepth 100000 in
theorem three_open (h : Rdg enc w B 39 cs) : ∃ p q x : Int, cs = [.int .i64 p, .int .i64 q, .int .i64 x] := by
  obtain ⟨hl, hf⟩ := h.struct Tryd.underlying39
  rw [cPair] at hl
  obtain ⟨a, b, c, rfl⟩ := list3 hl
  have h0 : Rdg enc w B 3 ((([a, b, c] : List Value).drop 0).take (Tryd.prog.cellsOf 3)) := hf 0 _ rfl
  have h1 : Rdg enc w B 3 ((([a, b, c] : List Value).drop 1).take (Tryd.prog.cellsOf 3)) := hf 1 _ rfl
  have h2 : Rdg enc w B 3 ((([a, b, c] : List Value).drop 2).take (Tryd.prog.cellsOf 3)) := hf 2 _ rfl
  rw [cInt] at h0 h1 h2
  obtain ⟨p, e0, _⟩ := h0.int Tryd.underlying3
  obtain ⟨q, e1, _⟩ := h1.int Tryd.underlying3
  obtain ⟨x, e2, _⟩ := h2.int Tryd.underlying3
  simp at e0 e1 e2
  exact ⟨p, q, x, by rw [e0, e1, e2]⟩
theorem cand_open (h : Rdg enc w B 41 cs) : ∃ p q x n o : Int, cs = [.int .i64 p, .int .i64 q, .int .i64 x, .int .i64 n, .int .i64 o] := by
  obtain ⟨hl, hf⟩ := h.struct Tryd.underlying41
  rw [cCand] at hl
  obtain ⟨a, b, c, d, e, rfl⟩ := list5 hl
  have h0 : Rdg enc w B 39 ((([a, b, c, d, e] : List Value).drop 0).take (Tryd.prog.cellsOf 39)) := hf 0 _ rfl
  have h1 : Rdg enc w B 26 ((([a, b, c, d, e] : List Value).drop 3).take (Tryd.prog.cellsOf 26)) := hf 1 _ rfl
  rw [cPair] at h0
  rw [cChance] at h1
  obtain ⟨p, q, x, e0⟩ := three_open h0
  obtain ⟨k, e1, _, _⟩ := pair_open (n1 := "") (n2 := "") Tryd.underlying26 ⟨rfl, rfl⟩ ⟨rfl, rfl⟩ cChance h1
  simp at e0 e1
  obtain ⟨e0, e2, e3⟩ := e0
  exact ⟨p, q, x, k.1, k.2, by rw [e0, e2, e3, e1.1, e1.2]⟩
set_option maxRecDepth 100000 in
theorem idea_open (h : Rdg enc w B 43 cs) : ∃ (ev : ByteArray) (t pa pb pl cn co lim g : Int) (l : List Int) (D : Option Addr) (dc : Nat), cs = idL ev t pa pb pl cn co lim g l D dc ∧ ev.size ≤ maxLen ∧ Sl w B 1 D l.length dc (ints l) ∧ l.length * 8 ≤ 140737488355328 := by
  obtain ⟨hl, hf⟩ := h.struct Tryd.underlying43
  rw [cIdea] at hl
  obtain ⟨c0, c1, c2, c3, c4, c5, c6, c7, c8, c9, rfl⟩ := list10 hl
  have h0 : Rdg enc w B 9 ((([c0, c1, c2, c3, c4, c5, c6, c7, c8, c9] : List Value).drop 0).take (Tryd.prog.cellsOf 9)) := hf 0 _ rfl
  rw [cStr] at h0
  have h1 : Rdg enc w B 3 ((([c0, c1, c2, c3, c4, c5, c6, c7, c8, c9] : List Value).drop 1).take (Tryd.prog.cellsOf 3)) := hf 1 _ rfl
  rw [cInt] at h1
  have h2 : Rdg enc w B 41 ((([c0, c1, c2, c3, c4, c5, c6, c7, c8, c9] : List Value).drop 2).take (Tryd.prog.cellsOf 41)) := hf 2 _ rfl
  rw [cCand] at h2
  have h7 : Rdg enc w B 3 ((([c0, c1, c2, c3, c4, c5, c6, c7, c8, c9] : List Value).drop 7).take (Tryd.prog.cellsOf 3)) := hf 3 _ rfl
  rw [cInt] at h7
  have h8 : Rdg enc w B 3 ((([c0, c1, c2, c3, c4, c5, c6, c7, c8, c9] : List Value).drop 8).take (Tryd.prog.cellsOf 3)) := hf 4 _ rfl
  rw [cInt] at h8
  have h9 : Rdg enc w B 27 ((([c0, c1, c2, c3, c4, c5, c6, c7, c8, c9] : List Value).drop 9).take (Tryd.prog.cellsOf 27)) := hf 5 _ rfl
  rw [cInts] at h9
  obtain ⟨ev, e0, hev⟩ := h0.string Tryd.underlying9
  obtain ⟨t, e1, _⟩ := h1.int Tryd.underlying3
  obtain ⟨pa, pb, pl, cn, co, e2⟩ := cand_open h2
  obtain ⟨lim, e7, _⟩ := h7.int Tryd.underlying3
  obtain ⟨g, e8, _⟩ := h8.int Tryd.underlying3
  obtain ⟨D, dc, l, e9, hs, hb, _⟩ := ints_open h9
  simp at e0 e1 e2 e7 e8 e9
  obtain ⟨e2, e3, e4, e5, e6⟩ := e2
  exact ⟨ev, t, pa, pb, pl, cn, co, lim, g, l, D, dc, by rw [e0, e1, e2, e3, e4, e5, e6, e7, e8, e9], hev, hs, hb⟩
end


set_option maxRecDepth 100000 in
theorem alertDrafts_contract (H : Type) (enc : TypeId × Value → H) (W : World) (base : Nat) (args : Array Value) (ds gs : List (DataW H)) (before : List MemPlace)
    (hval : ∀ (j : Nat) t v, Tryd.f4.params[j]? = some t → args[j]? = some v → Value.okWide Tryd.prog W .any base t v)
    (hW : DataW.Whole enc Tryd.prog Tryd.f4.params.toList Rows.alertDraftsSpec.vars false W args.toList ds gs before)
    (hwt : (DataW.weightsEach Tryd.prog Tryd.f4.params.toList ds).all (· ≤ reachBytes) = true) (hL : laidMetH Tryd.prog Rows.alertDraftsRow.laid W) :
    Calls Tryd.prog 4 args W fun e W' => ∃ v, e = .returned v ∧ Rows.alertDraftsSpec.post enc Tryd.prog Tryd.f4 false true false false W args v W' := by
  have hlt : ∀ x ∈ before, x.block < W.heap.size := fun x hx => hW.lt x hx
  have hW' := hW
  obtain ⟨p, q, hA0, hV, rfl, _, _⟩ := hW
  have hA : DataW.TrodAll enc Tryd.prog W 0 (fun _ => true) true Tryd.f4.params.toList args.toList ds p := hA0
  have hrdy : Rdy W := rdyOf hL
  obtain ⟨rfl, rfl⟩ := trodVars_none hV
  rw [Tryd.params4] at hA hval hwt
  have rd : ∀ (j : Nat) (t : TypeId) (v : Value), ([29, 43] : List TypeId)[j]? = some t → args.toList[j]? = some v → Rdg enc W W.heap.size t v.cells.toList := fun j t v h1 h2 =>
    rdgOf hA (fun x hx => hlt x (List.mem_append.2 (.inl hx))) hwt h1 h2
  obtain ⟨v0, vs0, d0, ds0, p0, q0, e0, rfl, rfl, h0, r0⟩ := trodAll_cons hA
  obtain ⟨v1, vs1, d1, ds1, p1, q1, e1, rfl, rfl, h1, r1⟩ := trodAll_cons r0
  obtain ⟨rfl, rfl, rfl⟩ := trodAll_nil r1
  obtain rfl : args = #[v0, v1] := by cases args; simp_all
  have walk : Calls Tryd.prog 4 #[v0, v1] W fun e w' => e = .returned (.bool true) ∧ Below W.heap.size W w' := by
    obtain ⟨c0, hc0, _⟩ := okWide_struct Tryd.underlying29 (hval 0 29 v0 rfl rfl)
    obtain ⟨c1, hc1, _⟩ := okWide_struct Tryd.underlying43 (hval 1 43 v1 rfl rfl)
    obtain ⟨a, A, c, ha, hev, hs, _, _⟩ := alr_open (rd 0 29 v0 rfl rfl)
    obtain ⟨ev, t, pa, pb, pl, cn, co, lim, g, l, D, dc, hi, hev2, hl, hlb⟩ := idea_open (rd 1 43 v1 rfl rfl)
    subst hc0 hc1
    have e0 : c0 = (a.lst A c).toArray := by rw [← Array.toList_inj]; exact ha
    have e1 : c1 = (idL ev t pa pb pl cn co lim g l D dc).toArray := by rw [← Array.toList_inj]; exact hi
    subst e0 e1
    exact ldrafts_ a A c ev t pa pb pl cn co lim g l D dc _ _ _ _ _ _ W rfl rfl rfl ⟨hev, hs⟩ hev2 hl hlb hrdy
  refine walk.mono fun e W' ⟨he, hb⟩ => ?_
  subst he
  exact ⟨_, rfl, lawPost hW' rfl (by kernel_rfl) rfl (by rw [Tryd.params4]; intro t ht; simp at ht; rcases ht with rfl | rfl <;> exact ⟨by kernel_rfl, of_decide_eq_true (by kernel_rfl)⟩) hb⟩

theorem alertDrafts_reads (os : Os) {H : Type} (enc : TypeId × Value → H) : ∃ places, DataW.whole enc Tryd.prog ((laidWorld os).forCall (fun _ _ => 0) ⟨#[], #[.agg #[.string ⟨#[]⟩, .int .i64 0, .int .i64 0, .int .i64 0, .int .i64 0, .int .i64 0, .slice none 0 0, .bool false, .int .i64 0], .agg #[.string ⟨#[]⟩, .int .i64 0, .int .i64 0, .int .i64 0, .int .i64 0, .int .i64 0, .int .i64 0, .int .i64 0, .int .i64 0, .slice none 0 0]], []⟩).memory Tryd.f4.params.toList Rows.alertDraftsSpec.vars false (#[.agg #[.string ⟨#[]⟩, .int .i64 0, .int .i64 0, .int .i64 0, .int .i64 0, .int .i64 0, .slice none 0 0, .bool false, .int .i64 0], .agg #[.string ⟨#[]⟩, .int .i64 0, .int .i64 0, .int .i64 0, .int .i64 0, .int .i64 0, .int .i64 0, .int .i64 0, .int .i64 0, .slice none 0 0]] : Array Value).toList 8 = some ([.agg [.lit (.string []), .lit (.int .i64 0), .lit (.int .i64 0), .agg [.lit (.int .i64 0), .lit (.int .i64 0)], .lit (.int .i64 0), .nil, .lit (.bool false), .lit (.int .i64 0)], .agg [.lit (.string []), .lit (.int .i64 0), .agg [.agg [.lit (.int .i64 0), .lit (.int .i64 0), .lit (.int .i64 0)], .agg [.lit (.int .i64 0), .lit (.int .i64 0)]], .lit (.int .i64 0), .lit (.int .i64 0), .nil]], [], places) :=
  ⟨[], by kernel_rfl⟩
set_option maxRecDepth 100000 in
theorem alertDrafts_lifted (os : Os) (started : os.Started) (H : Type) (enc : TypeId × Value → H) (F : Stop.Interp) :
    ReturnsInHanded {} Tryd.checked os 4 .any ((OpenSpec.ofChange Rows.alertDraftsSpec).preRow enc Tryd.prog Tryd.f4 Rows.alertDraftsRow.domain false Rows.alertDraftsRow.laid) (((OpenSpec.ofChange Rows.alertDraftsSpec).at F).post enc Tryd.prog Tryd.f4 false true false false) := by
  obtain ⟨places, hx⟩ := alertDrafts_reads os enc
  refine returnsInHanded_of_row (C := Tryd.checked) (s := OpenSpec.ofChange Rows.alertDraftsSpec) own started (by kernel_rfl) Tryd.func4
    (witness_row_at (enc := enc) (C := Tryd.checked) false (laidWorld os) #[.agg #[.string ⟨#[]⟩, .int .i64 0, .int .i64 0, .int .i64 0, .int .i64 0, .int .i64 0, .slice none 0 0, .bool false, .int .i64 0], .agg #[.string ⟨#[]⟩, .int .i64 0, .int .i64 0, .int .i64 0, .int .i64 0, .int .i64 0, .int .i64 0, .int .i64 0, .int .i64 0, .slice none 0 0]] rfl (by kernel_rfl) (by kernel_rfl) (by kernel_rfl)
      (OpenSpec.preRow_of_cond 8 hx (by kernel_rfl) (fun k hk => by cases hk) (by kernel_rfl) (laid_met os _))) ?_
  intro W base args ds gs before hval hW _ _ hwt hL _ _
  refine alertDrafts_contract H enc W base args ds gs before hval hW ?_ hL
  have hgs : gs = [] := by
    obtain ⟨p, q, _, hV, _⟩ := hW
    exact (trodVars_none hV).1
  subst hgs
  have hw2 : (DataW.weightsEach Tryd.prog (Tryd.f4.params.toList ++ []) (ds ++ [])).all (· ≤ reachBytes) = true := hwt
  rw [List.append_nil, List.append_nil] at hw2
  exact hw2
theorem alertDrafts_said : Rows.AlertDraftsSaid :=
  OpenClaim.holds_of_cond 4 Tryd.f4 rfl rfl rfl rfl rfl rfl rfl ⟨rfl, rfl, rfl, rfl, rfl⟩ rfl rfl rfl rfl rfl (by kernel_rfl) Tryd.func4 (by kernel_rfl)
    (of_decide_eq_true (by kernel_rfl)) (by unfold Func.isWrapper; first | (rw [if_pos (by decide +kernel)]; kernel_rfl) | (rw [if_neg (by decide +kernel)]; exact ⟨rfl, rfl⟩))
    (fun os started H enc _ F => by rw [OpenClaim.pre_eq_preRow]; exact alertDrafts_lifted os started H enc F)
theorem alertDrafts_plain (f : FuncId) (fn : Func) (hf : Tryd.pinned.checked.prog.funcNamed "ringdown/ringdownlaw10.AlertDrafts" = some f) (hfn : Tryd.pinned.checked.prog.funcs[f]? = some fn) :
    false = Tryd.pinned.checked.prog.looks [] ∧ ∀ (j : Nat) t, fn.params[j]? = some t → Tryd.pinned.checked.prog.wantsStandIn t = false := by
  obtain rfl : f = 4 := Option.some.inj ((show Tryd.prog.funcNamed "ringdown/ringdownlaw10.AlertDrafts" = some 4 by kernel_rfl).symm.trans hf) |>.symm
  obtain rfl : fn = Tryd.f4 := (Option.some.inj (Tryd.func4.symm.trans hfn)).symm
  refine ⟨by kernel_rfl, fun j t ht => ?_⟩
  rw [Tryd.params4] at ht
  have := Array.mem_of_getElem? ht
  simp at this
  rcases this with rfl | rfl
  · exact (show Tryd.prog.wantsStandIn 29 = false by kernel_rfl)
  · exact (show Tryd.prog.wantsStandIn 43 = false by kernel_rfl)
/-- The law's card. -/
theorem alertDrafts_card : Rows.AlertDraftsCardSaid :=
  Claim7.holds_tied_plain_at .later [] _ _ _ _ alertDrafts_said (fun _ h => by cases h) (by kernel_rfl) (fun _ h => by cases h) alertDrafts_row_tie rfl ⟨rfl, rfl⟩ (by kernel_rfl) rfl alertDrafts_plain (by kernel_rfl)
end Go.Proofs.YtohfofecbdfkgaaDoor
