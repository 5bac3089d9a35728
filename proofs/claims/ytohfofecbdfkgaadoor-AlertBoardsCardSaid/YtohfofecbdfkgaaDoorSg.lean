/-
  The walks of Digest, Sign, Signed and their helpers.
-/
import Derived.Test.YtohfofecbdfkgaaDoorDg
import Derived.Test.YtohfofecbdfkgaaDoorCk
import Derived.Test.YtohfofecbdfkgaaDoorPow
namespace Go.Proofs.YtohfofecbdfkgaaDoor
open Go.RowKit Al

/-- An alert that lies in the world: its cells are a slice in memory. -/
structure AIn (w : World) (a : Alr) (A : Option Addr) (c : Nat) : Prop where
  ev : a.ev.size ≤ maxLen
  sl : Sl w w.heap.size 1 A a.cells.length c (ints a.cells)
theorem AIn.below {w w' : World} {a : Alr} {A : Option Addr} {c : Nat} (h : AIn w a A c) (hb : Below w.heap.size w w') : AIn w' a A c :=
  ⟨h.ev, (h.sl.below hb).more hb.size⟩
/-- The world is ready for a text: the library's table lies in it. -/
structure Rdy (w : World) : Prop where
  tab : Tab w
  big : 3 ≤ w.heap.size
theorem Rdy.below {w w' : World} (h : Rdy w) (hb : Below w.heap.size w w') : Rdy w' := ⟨h.tab.below (by have := h.big; omega) hb, Nat.le_trans h.big hb.size⟩

theorem validA (a : Alr) (A : Option Addr) (c : Nat) (w : World) (h : AIn w a A c) :
    Calls Tryd.prog 76 #[a.val A c] w fun e w' => e = .returned (.bool (okA a)) ∧ Below w.heap.size w w' :=
  valid_ a A c _ w h.ev h.sl (Nat.le_refl _)
theorem rcheckA (a : Alr) (A : Option Addr) (c : Nat) (w : World) (h : AIn w a A c) :
    Calls Tryd.prog 65 #[a.val A c] w fun e w' => e = .returned (.int .i64 (errA (okA a) 101)) ∧ Below w.heap.size w w' :=
  rcheck_ a A c _ w h.ev h.sl (Nat.le_refl _)
theorem digestA (a : Alr) (A : Option Addr) (c : Nat) (w : World) (hk : okA a = true) (h : AIn w a A c) (hr : Rdy w) :
    Calls Tryd.prog 74 #[a.val A c] w fun e w' => e = .returned (.int .i64 (digA a)) ∧ Below w.heap.size w w' :=
  digest_ a A c _ w (okA_good hk) h.sl (Nat.le_refl _) hr.tab hr.big
theorem rdigestA (a : Alr) (A : Option Addr) (c : Nat) (w : World) (hk : okA a = true) (h : AIn w a A c) :
    Calls Tryd.prog 57 #[a.val A c] w fun e w' => e = .returned (.int .i64 (digA a)) ∧ Below w.heap.size w w' :=
  rdigest_ a A c _ w (okA_good hk) h.sl (Nat.le_refl _)

/-- What Digest gives. -/
def digE (a : Alr) : Int := if okA a then digA a else 0
theorem digE_t {a : Alr} (h : okA a = true) : digE a = digA a := by unfold digE; rw [h]; rfl
theorem digE_f {a : Alr} (h : okA a = false) : digE a = 0 := by unfold digE; rw [h]; rfl
theorem errA_t {b : Bool} {c : Int} (h : b = true) : errA b c = 0 := by rw [h]; rfl
theorem errA_f {b : Bool} {c : Int} (h : b = false) : errA b c = c := by rw [h]; rfl
theorem ret2 {j k : IntKind} {a b c d : Int} (h : a = c) (h' : b = d) : Ending.returned (.tuple #[.int j a, .int k b]) = .returned (.tuple #[.int j c, .int k d]) := by rw [h, h']
theorem retb2 {k : IntKind} {a c : Bool} {b d : Int} (h : a = c) (h' : b = d) : Ending.returned (.tuple #[.bool a, .int k b]) = .returned (.tuple #[.bool c, .int k d]) := by rw [h, h']

set_option maxRecDepth 100000 in
theorem Digest_ (a : Alr) (A : Option Addr) (c : Nat) (w : World) (h : AIn w a A c) (hr : Rdy w) :
    Calls Tryd.prog 34 #[a.val A c] w fun e w' => e = .returned (.tuple #[.int .i64 (digE a), .int .i64 (errA (okA a) 101)]) ∧ Below w.heap.size w w' := by
  have HA := Lib.hid h
  have HR := Lib.hid hr
  clear h hr
  go_enter Tryd.func34, Tryd.ntmps34
  go_wp2_with fail
  refine (validA a A c _ (HA.out.below (by repeat (first | exact Below.refl _ _ | assumption | refine below_drewN ?_ _ | refine Below.drew ?_ | refine Below.setCell ?_ (by first | omega | (simp; done) | (simp; omega)) _ | refine Below.alloc ?_ (by first | omega | (simp; done) | (simp; omega)) _)))).mono ?_
  rintro e w1 ⟨rfl, hb⟩
  obtain ⟨hc, hf⟩ := bcell hb
  have HB := Lib.hid ((show Below w.heap.size w _ from (by repeat (first | exact Below.refl _ _ | assumption | refine below_drewN ?_ _ | refine Below.drew ?_ | refine Below.setCell ?_ (by first | omega | (simp; done) | (simp; omega)) _ | refine Below.alloc ?_ (by first | omega | (simp; done) | (simp; omega)) _))).trans (hb.mono (by simp)))
  have hz := hb.size
  simp at hz
  clear hb
  by_cases hk : okA a = true
  · have HK := Lib.hid hk
    go_wp2_with fail
    refine (digestA a A c _ HK.out (HA.out.below HB.out) (HR.out.below HB.out)).mono ?_
    rintro e w2 ⟨rfl, hb2⟩
    have HB2 := Lib.hid (HB.out.trans (hb2.mono HB.out.size))
    clear hb2 hc hf
    go_wp2_with fail
    go_ret2
    exact ⟨ret2 (digE_t HK.out).symm (errA_t HK.out).symm, HB2.out⟩
  · have hk' : okA a = false := by simpa using hk
    have HK := Lib.hid hk'
    clear hk
    go_wp2_with fail
    go_ret2
    exact ⟨ret2 (digE_f HK.out).symm (errA_f HK.out).symm, HB.out⟩
end Go.Proofs.YtohfofecbdfkgaaDoor
