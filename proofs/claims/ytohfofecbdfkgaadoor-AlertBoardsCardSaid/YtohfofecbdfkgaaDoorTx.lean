/-
  The walk of 'text': the lines of an alert, written one by one into a Builder by method values in an array.
-/
import Derived.Test.YtohfofecbdfkgaaDoorLn
import Derived.Test.YtohfofecbdfkgaaDoorBld
namespace Go.Proofs.YtohfofecbdfkgaaDoor
open Go.RowKit Al

theorem bld_below {T e B b : Nat} {bs : List Value} {w w' : World} (h : Lib.IsBuilder T e B b bs w) (hb : Below w.heap.size w w') : Lib.IsBuilder T e B b bs w' := by
  have key : ∀ p, Lib.BuilderAt T e B b p bs w → Lib.BuilderAt T e B b p bs w' := by
    rintro p ⟨hB, v, hh, hown, hne⟩
    exact ⟨hB, v, by rw [hb.block b (Array.getElem?_eq_some_iff.1 hh).1]; exact hh, own_below hown (Nat.le_refl _) hb, hne⟩
  rcases h with h | h
  · exact .inl (key _ h)
  · exact .inr (key _ h)

theorem heap_third (w : World) (o1 o2 o3 : Obj) : (((w.alloc o1).alloc o2).alloc o3).heap[w.heap.size + 1 + 1]? = some o3 := by
  have h := heap_alloc_new ((w.alloc o1).alloc o2) o3
  rwa [World.size_alloc, World.size_alloc] at h
/-- The first k lines. -/
def linesTo (a : Alr) (k : Nat) : List UInt8 := ((lines a).take k).flatMap fun l => l ++ [10]
theorem linesTo_succ {a : Alr} {k : Nat} {l : List UInt8} (h : (lines a)[k]? = some l) : linesTo a (k + 1) = linesTo a k ++ (l ++ [10]) := by
  unfold linesTo
  rw [List.take_add_one, h, List.flatMap_append]
  simp
def TextRel (a : Alr) (w : World) (i : Value) (wr : World) : Prop := ∃ k : Nat, k ≤ 7 ∧ i = .int .i64 k ∧
  Hid (Lib.IsBuilder 126 5 (w.heap.size + 1 + 1) (w.heap.size + 1 + 1) (Lib.byteCells (linesTo a k)) wr) ∧ (linesTo a k).length ≤ 8193 * k ∧ Below w.heap.size w wr ∧ w.heap.size + 3 ≤ wr.heap.size
/-- One line more. -/
theorem text_line {a : Alr} {k b : Nat} {t : ByteArray} {l : List UInt8} {w1 : World} (hk : (lines a)[k]? = some l) (ht : Hid (t.data.toList = l)) (hsz : t.size ≤ 8192) (hlen : (linesTo a k).length ≤ 8193 * k) :
    Lib.byteCells (linesTo a k) ++ Lib.strCells (t ++ (⟨#[10]⟩ : ByteArray)) = Lib.byteCells (linesTo a (k + 1)) ∧ (linesTo a (k + 1)).length ≤ 8193 * (k + 1) := by
  have e : (t ++ (⟨#[10]⟩ : ByteArray)).data.toList = l ++ [10] := by rw [str_add, ht.out]
  have hl : l.length = t.size := by rw [← ht.out, Array.length_toList]; rfl
  refine ⟨?_, ?_⟩
  · rw [linesTo_succ hk, Lib.byteCells_append, Lib.strCells_eq, e]
  · rw [linesTo_succ hk]
    simp
    omega

theorem idx7_0 (x0 x1 x2 x3 x4 x5 x6 : Value) (w : World) : (Instr.index 128 (.agg #[x0, x1, x2, x3, x4, x5, x6]) (.int .i64 0)).run Tryd.prog w = .ok x0 w := by kernel_rfl
theorem idx7_1 (x0 x1 x2 x3 x4 x5 x6 : Value) (w : World) : (Instr.index 128 (.agg #[x0, x1, x2, x3, x4, x5, x6]) (.int .i64 1)).run Tryd.prog w = .ok x1 w := by kernel_rfl
theorem idx7_2 (x0 x1 x2 x3 x4 x5 x6 : Value) (w : World) : (Instr.index 128 (.agg #[x0, x1, x2, x3, x4, x5, x6]) (.int .i64 2)).run Tryd.prog w = .ok x2 w := by kernel_rfl
theorem idx7_3 (x0 x1 x2 x3 x4 x5 x6 : Value) (w : World) : (Instr.index 128 (.agg #[x0, x1, x2, x3, x4, x5, x6]) (.int .i64 3)).run Tryd.prog w = .ok x3 w := by kernel_rfl
theorem idx7_4 (x0 x1 x2 x3 x4 x5 x6 : Value) (w : World) : (Instr.index 128 (.agg #[x0, x1, x2, x3, x4, x5, x6]) (.int .i64 4)).run Tryd.prog w = .ok x4 w := by kernel_rfl
theorem idx7_5 (x0 x1 x2 x3 x4 x5 x6 : Value) (w : World) : (Instr.index 128 (.agg #[x0, x1, x2, x3, x4, x5, x6]) (.int .i64 5)).run Tryd.prog w = .ok x5 w := by kernel_rfl
theorem idx7_6 (x0 x1 x2 x3 x4 x5 x6 : Value) (w : World) : (Instr.index 128 (.agg #[x0, x1, x2, x3, x4, x5, x6]) (.int .i64 6)).run Tryd.prog w = .ok x6 w := by kernel_rfl

set_option maxRecDepth 100000 in
set_option maxHeartbeats 4000000 in
theorem text_ (a : Alr) (A : Option Addr) (c B : Nat) (w : World) (hg : AlGood a) (h : Sl w B 1 A a.cells.length c (ints a.cells)) (hB : B ≤ w.heap.size) (ht : Tab w) (h3 : 3 ≤ w.heap.size) :
    Calls Tryd.prog 81 #[a.val A c] w fun e w' => e = .returned (.string ⟨(textL a).toArray⟩) ∧ Below w.heap.size w w' := by
  have HG := Lib.hid hg
  have HT := Lib.hid ht
  have HS := Lib.hid h
  clear hg ht h
  go_enter Tryd.func81, Tryd.ntmps81
  go_wp2
  go_loopw [23] (fun i wr => TextRel a w i wr) (fun i _ => (7 - intOf i).toNat)
  case atStart =>
    refine ⟨0, by omega, rfl, .inl ⟨by omega, _, ?_, World.ownsRow_nil _ _ _ _, by simp [Value.ownBlock]⟩, by simp [linesTo], (by repeat (first | exact Below.refl _ _ | assumption | refine below_drewN ?_ _ | refine Below.drew ?_ | refine Below.setCell ?_ (by first | omega | (simp; done) | (simp; omega)) _ | refine Below.alloc ?_ (by first | omega | (simp; done) | (simp; omega)) _)), by simp⟩
    exact heap_third _ _ _ _
  case round =>
    obtain ⟨k, hk, rfl, hbu, hlen, hb, hsz⟩ := hrel
    have HT' := Lib.hid (HT.out.below (by omega) hb)
    have HS' := Lib.hid ((HS.out.below (hb.mono hB)).more (show B ≤ wr.heap.size by omega))
    have h3' : 3 ≤ wr.heap.size := by omega
    obtain rfl | rfl | rfl | rfl | rfl | rfl | rfl | rfl : k = 0 ∨ k = 1 ∨ k = 2 ∨ k = 3 ∨ k = 4 ∨ k = 5 ∨ k = 6 ∨ k = 7 := by omega
    · have ix := idx7_0
      go_wp2_with fail
      refine (head_ a A c _ HG.out HT'.out h3').mono ?_
      rintro e w1 ⟨t, rfl, h1, h2, h4⟩
      have hbu1 := bld_below hbu.out h4
      have hl := text_line (b := 0) (w1 := w1) (a := a) (k := 0) rfl h1 h2 hlen
      have hz := h4.size
      have hw1 := hb.trans (h4.mono hb.size)
      clear h4
      have HL := Lib.hid hl
      have HB := Lib.hid hbu1
      have HW := Lib.hid hw1
      clear hl hbu1 hw1 hbu hb
      go_wp2_with fail
      refine (bldWrite (w.heap.size + 1 + 1) (w.heap.size + 1 + 1) _ _ _ HB.out (by rw [Lib.byteCells_length, ByteArray.size_append, show (⟨#[10]⟩ : ByteArray).size = 1 from rfl]; omega) (by omega)).mono ?_
      rintro e w2 ⟨rfl, h5, h6⟩
      go_wp2_with fail
      go_roundw
      case rel => (first | exact ⟨1, by omega, rfl, .inr (by rw [← HL.out.1]; exact h5), HL.out.2, HW.out.trans (h6.mono (by omega)), by have := h6.size; omega⟩ | ((repeat apply Exists.intro); refine ⟨⟨1, by omega, rfl, .inr (by rw [← HL.out.1]; exact h5), HL.out.2, HW.out.trans (h6.mono (by omega)), by have := h6.size; omega⟩, ?_⟩; (repeat refine ⟨rfl, ?_⟩); exact rfl))
      case measure => simp [intOf]
    · have ix := idx7_1
      go_wp2_with fail
      refine (time_ a A c _ HG.out HT'.out h3').mono ?_
      rintro e w1 ⟨t, rfl, h1, h2, h4⟩
      have hbu1 := bld_below hbu.out h4
      have hl := text_line (b := 0) (w1 := w1) (a := a) (k := 1) rfl h1 h2 hlen
      have hz := h4.size
      have hw1 := hb.trans (h4.mono hb.size)
      clear h4
      have HL := Lib.hid hl
      have HB := Lib.hid hbu1
      have HW := Lib.hid hw1
      clear hl hbu1 hw1 hbu hb
      go_wp2_with fail
      refine (bldWrite (w.heap.size + 1 + 1) (w.heap.size + 1 + 1) _ _ _ HB.out (by rw [Lib.byteCells_length, ByteArray.size_append, show (⟨#[10]⟩ : ByteArray).size = 1 from rfl]; omega) (by omega)).mono ?_
      rintro e w2 ⟨rfl, h5, h6⟩
      go_wp2_with fail
      go_roundw
      case rel => (first | exact ⟨2, by omega, rfl, .inr (by rw [← HL.out.1]; exact h5), HL.out.2, HW.out.trans (h6.mono (by omega)), by have := h6.size; omega⟩ | ((repeat apply Exists.intro); refine ⟨⟨2, by omega, rfl, .inr (by rw [← HL.out.1]; exact h5), HL.out.2, HW.out.trans (h6.mono (by omega)), by have := h6.size; omega⟩, ?_⟩; (repeat refine ⟨rfl, ?_⟩); exact rfl))
      case measure => simp [intOf]
    · have ix := idx7_2
      go_wp2_with fail
      refine (chance_ a A c _ HG.out HT'.out h3').mono ?_
      rintro e w1 ⟨t, rfl, h1, h2, h4⟩
      have hbu1 := bld_below hbu.out h4
      have hl := text_line (b := 0) (w1 := w1) (a := a) (k := 2) rfl h1 h2 hlen
      have hz := h4.size
      have hw1 := hb.trans (h4.mono hb.size)
      clear h4
      have HL := Lib.hid hl
      have HB := Lib.hid hbu1
      have HW := Lib.hid hw1
      clear hl hbu1 hw1 hbu hb
      go_wp2_with fail
      refine (bldWrite (w.heap.size + 1 + 1) (w.heap.size + 1 + 1) _ _ _ HB.out (by rw [Lib.byteCells_length, ByteArray.size_append, show (⟨#[10]⟩ : ByteArray).size = 1 from rfl]; omega) (by omega)).mono ?_
      rintro e w2 ⟨rfl, h5, h6⟩
      go_wp2_with fail
      go_roundw
      case rel => (first | exact ⟨3, by omega, rfl, .inr (by rw [← HL.out.1]; exact h5), HL.out.2, HW.out.trans (h6.mono (by omega)), by have := h6.size; omega⟩ | ((repeat apply Exists.intro); refine ⟨⟨3, by omega, rfl, .inr (by rw [← HL.out.1]; exact h5), HL.out.2, HW.out.trans (h6.mono (by omega)), by have := h6.size; omega⟩, ?_⟩; (repeat refine ⟨rfl, ?_⟩); exact rfl))
      case measure => simp [intOf]
    · have ix := idx7_3
      go_wp2_with fail
      refine (grid_ a A c _ HG.out HT'.out h3').mono ?_
      rintro e w1 ⟨t, rfl, h1, h2, h4⟩
      have hbu1 := bld_below hbu.out h4
      have hl := text_line (b := 0) (w1 := w1) (a := a) (k := 3) rfl h1 h2 hlen
      have hz := h4.size
      have hw1 := hb.trans (h4.mono hb.size)
      clear h4
      have HL := Lib.hid hl
      have HB := Lib.hid hbu1
      have HW := Lib.hid hw1
      clear hl hbu1 hw1 hbu hb
      go_wp2_with fail
      refine (bldWrite (w.heap.size + 1 + 1) (w.heap.size + 1 + 1) _ _ _ HB.out (by rw [Lib.byteCells_length, ByteArray.size_append, show (⟨#[10]⟩ : ByteArray).size = 1 from rfl]; omega) (by omega)).mono ?_
      rintro e w2 ⟨rfl, h5, h6⟩
      go_wp2_with fail
      go_roundw
      case rel => (first | exact ⟨4, by omega, rfl, .inr (by rw [← HL.out.1]; exact h5), HL.out.2, HW.out.trans (h6.mono (by omega)), by have := h6.size; omega⟩ | ((repeat apply Exists.intro); refine ⟨⟨4, by omega, rfl, .inr (by rw [← HL.out.1]; exact h5), HL.out.2, HW.out.trans (h6.mono (by omega)), by have := h6.size; omega⟩, ?_⟩; (repeat refine ⟨rfl, ?_⟩); exact rfl))
      case measure => simp [intOf]
    · have ix := idx7_4
      go_wp2_with fail
      refine (where_ a A c _ _ HG.out HS'.out (Nat.le_refl _) HT'.out h3').mono ?_
      rintro e w1 ⟨t, rfl, h1, h2, h4⟩
      have hbu1 := bld_below hbu.out h4
      have hl := text_line (b := 0) (w1 := w1) (a := a) (k := 4) rfl h1 h2 hlen
      have hz := h4.size
      have hw1 := hb.trans (h4.mono hb.size)
      clear h4
      have HL := Lib.hid hl
      have HB := Lib.hid hbu1
      have HW := Lib.hid hw1
      clear hl hbu1 hw1 hbu hb
      go_wp2_with fail
      refine (bldWrite (w.heap.size + 1 + 1) (w.heap.size + 1 + 1) _ _ _ HB.out (by rw [Lib.byteCells_length, ByteArray.size_append, show (⟨#[10]⟩ : ByteArray).size = 1 from rfl]; omega) (by omega)).mono ?_
      rintro e w2 ⟨rfl, h5, h6⟩
      go_wp2_with fail
      go_roundw
      case rel => (first | exact ⟨5, by omega, rfl, .inr (by rw [← HL.out.1]; exact h5), HL.out.2, HW.out.trans (h6.mono (by omega)), by have := h6.size; omega⟩ | ((repeat apply Exists.intro); refine ⟨⟨5, by omega, rfl, .inr (by rw [← HL.out.1]; exact h5), HL.out.2, HW.out.trans (h6.mono (by omega)), by have := h6.size; omega⟩, ?_⟩; (repeat refine ⟨rfl, ?_⟩); exact rfl))
      case measure => simp [intOf]
    · have ix := idx7_5
      go_wp2_with fail
      refine (before_ a A c _ HG.out HT'.out h3').mono ?_
      rintro e w1 ⟨t, rfl, h1, h2, h4⟩
      have hbu1 := bld_below hbu.out h4
      have hl := text_line (b := 0) (w1 := w1) (a := a) (k := 5) rfl h1 h2 hlen
      have hz := h4.size
      have hw1 := hb.trans (h4.mono hb.size)
      clear h4
      have HL := Lib.hid hl
      have HB := Lib.hid hbu1
      have HW := Lib.hid hw1
      clear hl hbu1 hw1 hbu hb
      go_wp2_with fail
      refine (bldWrite (w.heap.size + 1 + 1) (w.heap.size + 1 + 1) _ _ _ HB.out (by rw [Lib.byteCells_length, ByteArray.size_append, show (⟨#[10]⟩ : ByteArray).size = 1 from rfl]; omega) (by omega)).mono ?_
      rintro e w2 ⟨rfl, h5, h6⟩
      go_wp2_with fail
      go_roundw
      case rel => (first | exact ⟨6, by omega, rfl, .inr (by rw [← HL.out.1]; exact h5), HL.out.2, HW.out.trans (h6.mono (by omega)), by have := h6.size; omega⟩ | ((repeat apply Exists.intro); refine ⟨⟨6, by omega, rfl, .inr (by rw [← HL.out.1]; exact h5), HL.out.2, HW.out.trans (h6.mono (by omega)), by have := h6.size; omega⟩, ?_⟩; (repeat refine ⟨rfl, ?_⟩); exact rfl))
      case measure => simp [intOf]
    · have ix := idx7_6
      go_wp2_with fail
      refine (end_ a A c _).mono ?_
      rintro e w1 ⟨t, rfl, h1, h2, h4⟩
      have hbu1 := bld_below hbu.out h4
      have hl := text_line (b := 0) (w1 := w1) (a := a) (k := 6) rfl h1 h2 hlen
      have hz := h4.size
      have hw1 := hb.trans (h4.mono hb.size)
      clear h4
      have HL := Lib.hid hl
      have HB := Lib.hid hbu1
      have HW := Lib.hid hw1
      clear hl hbu1 hw1 hbu hb
      go_wp2_with fail
      refine (bldWrite (w.heap.size + 1 + 1) (w.heap.size + 1 + 1) _ _ _ HB.out (by rw [Lib.byteCells_length, ByteArray.size_append, show (⟨#[10]⟩ : ByteArray).size = 1 from rfl]; omega) (by omega)).mono ?_
      rintro e w2 ⟨rfl, h5, h6⟩
      go_wp2_with fail
      go_roundw
      case rel => (first | exact ⟨7, by omega, rfl, .inr (by rw [← HL.out.1]; exact h5), HL.out.2, HW.out.trans (h6.mono (by omega)), by have := h6.size; omega⟩ | ((repeat apply Exists.intro); refine ⟨⟨7, by omega, rfl, .inr (by rw [← HL.out.1]; exact h5), HL.out.2, HW.out.trans (h6.mono (by omega)), by have := h6.size; omega⟩, ?_⟩; (repeat refine ⟨rfl, ?_⟩); exact rfl))
      case measure => simp [intOf]
    · have HF : Hid (linesTo a 7 = textL a) := rfl
      have HB := Lib.hid hbu.out
      clear hbu
      go_wp2_with (go_at_call 98; refine (Tryd.Builder_String_any (w.heap.size + 1 + 1) (w.heap.size + 1 + 1) _ _ HB.out (by omega)).mono ?_; rintro e w2 ⟨rfl, h6⟩)
      go_ret
      exact ⟨ret_str (by rw [HF.out]), hb.trans (h6.mono (by omega))⟩
end Go.Proofs.YtohfofecbdfkgaaDoor
