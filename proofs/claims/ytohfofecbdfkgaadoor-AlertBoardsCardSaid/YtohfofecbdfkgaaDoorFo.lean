/-
  The walks of Follow and Withdraw, of the program: given what next and drafted return.
-/
import Derived.Test.YtohfofecbdfkgaaDoorDw
namespace Go.Proofs.YtohfofecbdfkgaaDoor
open Go.RowKit Al

/-- What next says of an alert at a time, in this world and those that grow from it. -/
def NextSays (a : Alr) (A : Option Addr) (c : Nat) (t : Int) (b : Alr) (k : Int) (w : World) : Prop :=
  ∀ w', Below w.heap.size w w' → Calls Tryd.prog 55 #[a.val A c, .int .i64 t] w' (NextT b k w')

/-- The end of a function whose result is written to a block of cells, a new block behind it. -/
theorem finCellsA {P : Program} {fn : Func} {R : Ending → World → Prop} {a : Act} {w : World} {o : Obj} (b : Nat) (vs : List Value) (v : Value) (hd : a.defers = []) (hb : b < w.heap.size)
    (hres : ∀ W : World, (∀ j (hj : j < vs.length), W.cell? ⟨b, j, none⟩ = some vs[j]) → (results fn a.tmps).run P W = .ok v W)
    (his : ∀ j, j < vs.length → (w.cell? ⟨b, j, none⟩).isSome = true) (hR : R (.returned v) ((w.setCells b 0 vs).alloc o)) : bodyPost P fn R .ret a ((w.setCells b 0 vs).alloc o) := by
  refine bodyPost_ret (hres _ fun j hj => ?_) hd hR
  have h1 := World.cell?_setCells_in b vs 0 w (fun j hj => by rw [Nat.zero_add]; exact his j hj) j hj
  rw [Nat.zero_add] at h1
  rw [← h1]
  have hb' : b < (w.setCells b 0 vs).heap.size := Nat.lt_of_lt_of_le hb (below_setCells (n := 0) (Nat.zero_le _) vs 0 w w (Below.refl _ _)).size
  exact ((Below.refl (w.setCells b 0 vs).heap.size _).alloc (Nat.le_refl _) o).cell (p := ⟨b, j, none⟩) hb'

set_option maxRecDepth 100000 in
set_option maxHeartbeats 1000000 in
theorem Withdraw_e (a : Alr) (A : Option Addr) (c : Nat) (t k : Int) (w : World) (hk : (k == 0) = false) (hn : NextSays a A c t Al.zero k w) :
    Calls Tryd.prog 20 #[a.val A c, .int .i64 t] w (OwnT w.heap.size Al.zero k w) := by
  have hk' : (k != 0) = true := by rw [bne, hk]; rfl
  go_enter Tryd.func20, Tryd.ntmps20
  go_wp2_with fail
  refine (hn _ (by (repeat (first | exact Below.refl _ _ | assumption | refine below_drewN ?_ _ | refine Below.drew ?_ | refine Below.setCell ?_ (by first | omega | (simp; done) | (simp; omega)) _ | refine Below.alloc ?_ (by first | omega | (simp; done) | (simp; omega)) _)))).mono ?_
  rintro e w1 ⟨rfl, hb⟩
  obtain ⟨hcw1, hfw1⟩ := bcell hb
  have Hw1 := Lib.hid ((show Below w.heap.size w _ from (by repeat (first | exact Below.refl _ _ | assumption | refine below_drewN ?_ _ | refine Below.drew ?_ | refine Below.setCell ?_ (by first | omega | (simp; done) | (simp; omega)) _ | refine Below.alloc ?_ (by first | omega | (simp; done) | (simp; omega)) _))).trans (hb.mono (by first | omega | (simp; done) | (simp; omega))))
  have hzw1 := hb.size
  try simp at hzw1
  clear hb
  have hz3 : w.heap.size + 1 < w1.heap.size := by omega
  go_wp2_with fail
  refine finCellsA (w := w1) (w.heap.size + 1) (Al.zero.lst none 0) (.tuple #[Al.zero.val none 0, .int .i64 k]) rfl hz3 ?_ ?_ (show OwnT w.heap.size Al.zero k w _ _ from ⟨none, 0, rfl, zero_row _ _, ?_⟩)
  · intro W hW
    have r0 := hW 0 (by simp)
    have r1 := hW 1 (by simp)
    have r2 := hW 2 (by simp)
    have r3 := hW 3 (by simp)
    have r4 := hW 4 (by simp)
    have r5 := hW 5 (by simp)
    have r6 := hW 6 (by simp)
    have r7 := hW 7 (by simp)
    have r8 := hW 8 (by simp)
    clear hW
    simp only [List.getElem_cons_zero, List.getElem_cons_succ] at r0 r1 r2 r3 r4 r5 r6 r7 r8
    simp [results, Tryd.results20, go_sem, r0, r1, r2, r3, r4, r5, r6, r7, r8]
  · refine lt9 ?_
    simp [go_sem, hcw1]
  · have hb := below_setCells (n := w.heap.size) (b := w.heap.size + 1) (by omega) (Al.zero.lst none 0) 0 w w1 Hw1.out
    exact hb.alloc hb.size _

set_option maxRecDepth 100000 in
set_option maxHeartbeats 1000000 in
theorem Follow_e (a : Alr) (A : Option Addr) (c : Nat) (t cn co g : Int) (D : Option Addr) (dl dc : Nat) (k : Int) (w : World) (hk : (k == 0) = false) (hn : NextSays a A c t Al.zero k w) :
    Calls Tryd.prog 17 #[a.val A c, .int .i64 t, .agg #[.int .i64 cn, .int .i64 co], .int .i64 g, .slice D dl dc] w (OwnT w.heap.size Al.zero k w) := by
  have hk' : (k != 0) = true := by rw [bne, hk]; rfl
  go_enter Tryd.func17, Tryd.ntmps17
  go_wp2_with fail
  refine (hn _ (by (repeat (first | exact Below.refl _ _ | assumption | refine below_drewN ?_ _ | refine Below.drew ?_ | refine Below.setCell ?_ (by first | omega | (simp; done) | (simp; omega)) _ | refine Below.alloc ?_ (by first | omega | (simp; done) | (simp; omega)) _)))).mono ?_
  rintro e w1 ⟨rfl, hb⟩
  obtain ⟨hcw1, hfw1⟩ := bcell hb
  have Hw1 := Lib.hid ((show Below w.heap.size w _ from (by repeat (first | exact Below.refl _ _ | assumption | refine below_drewN ?_ _ | refine Below.drew ?_ | refine Below.setCell ?_ (by first | omega | (simp; done) | (simp; omega)) _ | refine Below.alloc ?_ (by first | omega | (simp; done) | (simp; omega)) _))).trans (hb.mono (by first | omega | (simp; done) | (simp; omega))))
  have hzw1 := hb.size
  try simp at hzw1
  clear hb
  have hz3 : w.heap.size + 2 < w1.heap.size := by omega
  go_wp2_with fail
  refine finCellsA (w := w1) (w.heap.size + 1 + 1) (Al.zero.lst none 0) (.tuple #[Al.zero.val none 0, .int .i64 k]) rfl hz3 ?_ ?_ (show OwnT w.heap.size Al.zero k w _ _ from ⟨none, 0, rfl, zero_row _ _, ?_⟩)
  · intro W hW
    have r0 := hW 0 (by simp)
    have r1 := hW 1 (by simp)
    have r2 := hW 2 (by simp)
    have r3 := hW 3 (by simp)
    have r4 := hW 4 (by simp)
    have r5 := hW 5 (by simp)
    have r6 := hW 6 (by simp)
    have r7 := hW 7 (by simp)
    have r8 := hW 8 (by simp)
    clear hW
    simp only [List.getElem_cons_zero, List.getElem_cons_succ] at r0 r1 r2 r3 r4 r5 r6 r7 r8
    simp [results, Tryd.results17, go_sem, r0, r1, r2, r3, r4, r5, r6, r7, r8]
  · refine lt9 ?_
    simp [go_sem, hcw1]
  · have hb := below_setCells (n := w.heap.size) (b := w.heap.size + 1 + 1) (by omega) (Al.zero.lst none 0) 0 w w1 Hw1.out
    exact hb.alloc hb.size _

/-- What drafted makes of an alert. -/
def draftA (a : Alr) : Alr := if okA a then a else Al.zero
theorem draftA_t {a : Alr} (h : okA a = true) : draftA a = a := by unfold draftA; rw [h]; rfl
theorem draftA_f {a : Alr} (h : okA a = false) : draftA a = Al.zero := by unfold draftA; rw [h]; rfl
/-- What drafted says of an alert, in this world and those that grow from it. -/
def DraftSays (a : Alr) (A : Option Addr) (c : Nat) (x : Alr) (k : Int) (w : World) : Prop :=
  ∀ w', Below w.heap.size w w' → Calls Tryd.prog 52 #[a.val A c] w' (OwnT w'.heap.size x k w')
theorem drafted_ (a : Alr) (A : Option Addr) (c : Nat) (w : World) (h : AIn w a A c) : DraftSays a A c (draftA a) (errA (okA a) 101) w := by
  intro w' hb
  by_cases hk : okA a = true
  · rw [draftA_t hk, errA_t hk]; exact drafted_t a A c w' hk (h.below hb)
  · have hk' : okA a = false := by simpa using hk
    rw [draftA_f hk', errA_f hk']; exact drafted_f a A c w' hk' (h.below hb)

set_option maxRecDepth 100000 in
set_option maxHeartbeats 1000000 in
theorem Withdraw_n (a : Alr) (A : Option Addr) (c : Nat) (t : Int) (ev : ByteArray) (ver tm cn co grid before : Int) (x : Alr) (k : Int) (w : World) (hn : NextSays a A c t ⟨ev, ver, tm, cn, co, grid, [], false, before⟩ 0 w)
    (hd : DraftSays ⟨ev, ver, tm, cn, co, grid, [], true, before⟩ none 0 x k w) :
    Calls Tryd.prog 20 #[a.val A c, .int .i64 t] w (OwnT w.heap.size x k w) := by
  go_enter Tryd.func20, Tryd.ntmps20
  go_wp2_with fail
  refine (hn _ (by (repeat (first | exact Below.refl _ _ | assumption | refine below_drewN ?_ _ | refine Below.drew ?_ | refine Below.setCell ?_ (by first | omega | (simp; done) | (simp; omega)) _ | refine Below.alloc ?_ (by first | omega | (simp; done) | (simp; omega)) _)))).mono ?_
  rintro e w1 ⟨rfl, hb⟩
  obtain ⟨hcw1, hfw1⟩ := bcell hb
  have Hw1 := Lib.hid ((show Below w.heap.size w _ from (by repeat (first | exact Below.refl _ _ | assumption | refine below_drewN ?_ _ | refine Below.drew ?_ | refine Below.setCell ?_ (by first | omega | (simp; done) | (simp; omega)) _ | refine Below.alloc ?_ (by first | omega | (simp; done) | (simp; omega)) _))).trans (hb.mono (by first | omega | (simp; done) | (simp; omega))))
  have hzw1 := hb.size
  try simp at hzw1
  clear hb
  have hz3 : w.heap.size + 1 < w1.heap.size := by omega
  have hz4 : w.heap.size < w1.heap.size := by omega
  go_wp2_with fail
  refine (hd _ (by repeat (first | exact Below.refl _ _ | exact (Hw1).out | refine below_drewN ?_ _ | refine Below.drew ?_ | refine Below.setCell ?_ (by first | omega | (simp; done) | (simp; omega)) _ | refine Below.alloc ?_ (by first | omega | (simp; done) | (simp; omega)) _))).mono ?_
  rintro e w2 ⟨A', c', rfl, hown, hbw⟩
  obtain ⟨hcw2, hfw2⟩ := bcell hbw
  have HB := Lib.hid ((show Below w.heap.size w _ from (by repeat (first | exact Below.refl _ _ | exact (Hw1).out | refine below_drewN ?_ _ | refine Below.drew ?_ | refine Below.setCell ?_ (by first | omega | (simp; done) | (simp; omega)) _ | refine Below.alloc ?_ (by first | omega | (simp; done) | (simp; omega)) _))).trans (hbw.mono (by first | omega | (simp; done) | (simp; omega))))
  have HO := Lib.hid hown
  have hz2 := hbw.size
  simp at hz2
  clear hbw hown
  have hz5 : w.heap.size + 1 < w2.heap.size := by omega
  go_wp2_with fail
  refine finCells (w := w2) (w.heap.size + 1) (x.lst A' c') (.tuple #[x.val A' c', .int .i64 k]) rfl ?_ ?_ (show OwnT w.heap.size x k w _ _ from ⟨A', c', rfl, ?_, ?_⟩)
  · intro W hW
    have r0 := hW 0 (by simp)
    have r1 := hW 1 (by simp)
    have r2 := hW 2 (by simp)
    have r3 := hW 3 (by simp)
    have r4 := hW 4 (by simp)
    have r5 := hW 5 (by simp)
    have r6 := hW 6 (by simp)
    have r7 := hW 7 (by simp)
    have r8 := hW 8 (by simp)
    clear hW
    simp only [List.getElem_cons_zero, List.getElem_cons_succ] at r0 r1 r2 r3 r4 r5 r6 r7 r8
    simp [results, Tryd.results20, go_sem, r0, r1, r2, r3, r4, r5, r6, r7, r8]
  · refine lt9 ?_
    have hz6 : w.heap.size + 1 < w1.heap.size + 1 := by omega
    simp [go_sem, hcw1, hcw2, hz3, hz6]
  · refine own_more (base := w1.heap.size + 1) (own_setCells ?_ _ _ _ ?_) ?_
    · omega
    · have := HO.out
      simp at this
      exact this
    · omega
  · exact below_setCells (by omega) _ _ _ _ HB.out

set_option maxRecDepth 100000 in
set_option maxHeartbeats 1000000 in
theorem Follow_n (a : Alr) (A : Option Addr) (c : Nat) (t cn co g : Int) (l : List Int) (D : Option Addr) (dc : Nat) (ev : ByteArray) (ver tm cn' co' grid before : Int) (x : Alr) (k : Int) (w : World) (hn : NextSays a A c t ⟨ev, ver, tm, cn', co', grid, [], false, before⟩ 0 w)
    (hd : DraftSays ⟨ev, ver, tm, cn, co, g, l, false, before⟩ D dc x k w) :
    Calls Tryd.prog 17 #[a.val A c, .int .i64 t, .agg #[.int .i64 cn, .int .i64 co], .int .i64 g, .slice D l.length dc] w (OwnT w.heap.size x k w) := by
  go_enter Tryd.func17, Tryd.ntmps17
  go_wp2_with fail
  refine (hn _ (by (repeat (first | exact Below.refl _ _ | assumption | refine below_drewN ?_ _ | refine Below.drew ?_ | refine Below.setCell ?_ (by first | omega | (simp; done) | (simp; omega)) _ | refine Below.alloc ?_ (by first | omega | (simp; done) | (simp; omega)) _)))).mono ?_
  rintro e w1 ⟨rfl, hb⟩
  obtain ⟨hcw1, hfw1⟩ := bcell hb
  have Hw1 := Lib.hid ((show Below w.heap.size w _ from (by repeat (first | exact Below.refl _ _ | assumption | refine below_drewN ?_ _ | refine Below.drew ?_ | refine Below.setCell ?_ (by first | omega | (simp; done) | (simp; omega)) _ | refine Below.alloc ?_ (by first | omega | (simp; done) | (simp; omega)) _))).trans (hb.mono (by first | omega | (simp; done) | (simp; omega))))
  have hzw1 := hb.size
  try simp at hzw1
  clear hb
  have hz3 : w.heap.size + 1 + 1 < w1.heap.size := by omega
  have hz4 : w.heap.size < w1.heap.size := by omega
  have hz7 : w.heap.size + 1 < w1.heap.size := by omega
  go_wp2_with fail
  refine (hd _ (by repeat (first | exact Below.refl _ _ | exact (Hw1).out | refine below_drewN ?_ _ | refine Below.drew ?_ | refine Below.setCell ?_ (by first | omega | (simp; done) | (simp; omega)) _ | refine Below.alloc ?_ (by first | omega | (simp; done) | (simp; omega)) _))).mono ?_
  rintro e w2 ⟨A', c', rfl, hown, hbw⟩
  obtain ⟨hcw2, hfw2⟩ := bcell hbw
  have HB := Lib.hid ((show Below w.heap.size w _ from (by repeat (first | exact Below.refl _ _ | exact (Hw1).out | refine below_drewN ?_ _ | refine Below.drew ?_ | refine Below.setCell ?_ (by first | omega | (simp; done) | (simp; omega)) _ | refine Below.alloc ?_ (by first | omega | (simp; done) | (simp; omega)) _))).trans (hbw.mono (by first | omega | (simp; done) | (simp; omega))))
  have HO := Lib.hid hown
  have hz2 := hbw.size
  simp at hz2
  clear hbw hown
  have hz5 : w.heap.size + 1 + 1 < w2.heap.size := by omega
  go_wp2_with fail
  refine finCells (w := w2) (w.heap.size + 1 + 1) (x.lst A' c') (.tuple #[x.val A' c', .int .i64 k]) rfl ?_ ?_ (show OwnT w.heap.size x k w _ _ from ⟨A', c', rfl, ?_, ?_⟩)
  · intro W hW
    have r0 := hW 0 (by simp)
    have r1 := hW 1 (by simp)
    have r2 := hW 2 (by simp)
    have r3 := hW 3 (by simp)
    have r4 := hW 4 (by simp)
    have r5 := hW 5 (by simp)
    have r6 := hW 6 (by simp)
    have r7 := hW 7 (by simp)
    have r8 := hW 8 (by simp)
    clear hW
    simp only [List.getElem_cons_zero, List.getElem_cons_succ] at r0 r1 r2 r3 r4 r5 r6 r7 r8
    simp [results, Tryd.results17, go_sem, r0, r1, r2, r3, r4, r5, r6, r7, r8]
  · refine lt9 ?_
    have hz6 : w.heap.size + 1 + 1 < w1.heap.size + 1 := by omega
    simp [go_sem, hcw1, hcw2, hz3, hz6]
  · refine own_more (base := w1.heap.size + 1) (own_setCells ?_ _ _ _ ?_) ?_
    · omega
    · have := HO.out
      simp at this
      exact this
    · omega
  · exact below_setCells (by omega) _ _ _ _ HB.out
end Go.Proofs.YtohfofecbdfkgaaDoor
