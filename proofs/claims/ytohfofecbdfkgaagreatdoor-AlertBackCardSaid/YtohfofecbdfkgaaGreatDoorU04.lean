/-
  The walk of 'text': the lines of an alert, written one by one into a Builder by method values in an array.
-/
import Derived.Test.YtohfofecbdfkgaaGreatDoorU03
import Derived.Deep.DeepCutAuto
import Derived.Lib.ConvBytes
namespace Go.Proofs.YtohfofecbdfkgaaGreatDoor
open Go.RowKit Al

theorem bld_below {T e B b : Nat} {bs : List Value} {w w' : World} (h : Lib.IsBuilder T e B b bs w) (hb : Below w.heap.size w w') : Lib.IsBuilder T e B b bs w' := by
  have key : ∀ p, Lib.BuilderAt T e B b p bs w → Lib.BuilderAt T e B b p bs w' := by
    rintro p ⟨hB, v, hh, hown, hne⟩
    exact ⟨hB, v, by rw [hb.block b (Array.getElem?_eq_some_iff.1 hh).1]; exact hh, own_below hown (Nat.le_refl _) hb, hne⟩
  rcases h with h | h
  · exact .inl (key _ h)
  · exact .inr (key _ h)

theorem heap_third (w : World) (o1 o2 o3 : Obj) : (((w.alloc o1).alloc o2).alloc o3).heap[w.heap.size + 1 + 1]? = some o3 := by
  have h := heap_alloc_new ((w.alloc o1).alloc o2) o3
  rwa [World.size_alloc, World.size_alloc] at h
/-- The first k lines. -/
def linesTo (a : Alr) (k : Nat) : List UInt8 := ((lines a).take k).flatMap fun l => l ++ [10]
theorem linesTo_succ {a : Alr} {k : Nat} {l : List UInt8} (h : (lines a)[k]? = some l) : linesTo a (k + 1) = linesTo a k ++ (l ++ [10]) := by
  unfold linesTo
  rw [List.take_add_one, h, List.flatMap_append]
  simp
def TextRel (a : Alr) (w : World) (i : Value) (wr : World) : Prop := ∃ k : Nat, k ≤ 7 ∧ i = .int .i64 k ∧
  Hid (Lib.IsBuilder 154 5 (w.heap.size + 1 + 1) (w.heap.size + 1 + 1) (Lib.byteCells (linesTo a k)) wr) ∧ (linesTo a k).length ≤ 8193 * k ∧ Below w.heap.size w wr ∧ w.heap.size + 3 ≤ wr.heap.size
/-- One line more. -/
theorem text_line {a : Alr} {k : Nat} {t : ByteArray} {l : List UInt8} (hk : (lines a)[k]? = some l) (ht : Hid (t.data.toList = l)) (hsz : t.size ≤ 8192) (hlen : (linesTo a k).length ≤ 8193 * k) :
    Lib.byteCells (linesTo a k) ++ Lib.strCells (t ++ (⟨#[10]⟩ : ByteArray)) = Lib.byteCells (linesTo a (k + 1)) ∧ (linesTo a (k + 1)).length ≤ 8193 * (k + 1) := by
  have e : (t ++ (⟨#[10]⟩ : ByteArray)).data.toList = l ++ [10] := by rw [str_add, ht.out]
  have hl : l.length = t.size := by rw [← ht.out, Array.length_toList]; rfl
  refine ⟨?_, ?_⟩
  · rw [linesTo_succ hk, Lib.byteCells_append, Lib.strCells_eq, e]
  · rw [linesTo_succ hk]
    simp
    omega

theorem idx7_0 (x0 x1 x2 x3 x4 x5 x6 : Value) (w : World) : (Instr.index 156 (.agg #[x0, x1, x2, x3, x4, x5, x6]) (.int .i64 0)).run Tryz.prog w = .ok x0 w := by kernel_rfl
theorem idx7_1 (x0 x1 x2 x3 x4 x5 x6 : Value) (w : World) : (Instr.index 156 (.agg #[x0, x1, x2, x3, x4, x5, x6]) (.int .i64 1)).run Tryz.prog w = .ok x1 w := by kernel_rfl
theorem idx7_2 (x0 x1 x2 x3 x4 x5 x6 : Value) (w : World) : (Instr.index 156 (.agg #[x0, x1, x2, x3, x4, x5, x6]) (.int .i64 2)).run Tryz.prog w = .ok x2 w := by kernel_rfl
theorem idx7_3 (x0 x1 x2 x3 x4 x5 x6 : Value) (w : World) : (Instr.index 156 (.agg #[x0, x1, x2, x3, x4, x5, x6]) (.int .i64 3)).run Tryz.prog w = .ok x3 w := by kernel_rfl
theorem idx7_4 (x0 x1 x2 x3 x4 x5 x6 : Value) (w : World) : (Instr.index 156 (.agg #[x0, x1, x2, x3, x4, x5, x6]) (.int .i64 4)).run Tryz.prog w = .ok x4 w := by kernel_rfl
theorem idx7_5 (x0 x1 x2 x3 x4 x5 x6 : Value) (w : World) : (Instr.index 156 (.agg #[x0, x1, x2, x3, x4, x5, x6]) (.int .i64 5)).run Tryz.prog w = .ok x5 w := by kernel_rfl
theorem idx7_6 (x0 x1 x2 x3 x4 x5 x6 : Value) (w : World) : (Instr.index 156 (.agg #[x0, x1, x2, x3, x4, x5, x6]) (.int .i64 6)).run Tryz.prog w = .ok x6 w := by kernel_rfl

set_option maxRecDepth 100000 in
set_option maxHeartbeats 4000000 in
theorem text_ (a : Alr) (A : Option Addr) (c B : Nat) (w : World) (hg : AlGood a) (h : Sl w B 1 A a.cells.length c (ints a.cells)) (hB : B ≤ w.heap.size) (ht : Tab w) (h3 : 8 ≤ w.heap.size) :
    Calls Tryz.prog 79 #[a.val A c] w fun e w' => e = .returned (.string ⟨(textL a).toArray⟩) ∧ Below w.heap.size w w' := by
  have HG := Lib.hid hg
  have HT := Lib.hid ht
  have HS := Lib.hid h
  clear hg ht h
  go_enter Tryz.func79, Tryz.ntmps79
  go_wp2
  go_loopw [23] (fun i wr => TextRel a w i wr) (fun i _ => (7 - intOf i).toNat)
  case atStart =>
    refine ⟨0, by omega, rfl, .inl ⟨by omega, _, ?_, World.ownsRow_nil _ _ _ _, by simp [Value.ownBlock]⟩, by simp [linesTo], (by repeat (first | exact Below.refl _ _ | assumption | refine below_drewN ?_ _ | refine Below.drew ?_ | refine Below.setCell ?_ (by first | omega | (simp; done) | (simp; omega)) _ | refine Below.alloc ?_ (by first | omega | (simp; done) | (simp; omega)) _)), by simp⟩
    exact heap_third _ _ _ _
  case round =>
    obtain ⟨k, hk, rfl, hbu, hlen, hb, hsz⟩ := hrel
    have HT' := Lib.hid (HT.out.below (by omega) hb)
    have HS' := Lib.hid ((HS.out.below (hb.mono hB)).more (show B ≤ wr.heap.size by omega))
    have h3' : 8 ≤ wr.heap.size := by omega
    obtain rfl | rfl | rfl | rfl | rfl | rfl | rfl | rfl : k = 0 ∨ k = 1 ∨ k = 2 ∨ k = 3 ∨ k = 4 ∨ k = 5 ∨ k = 6 ∨ k = 7 := by omega
    · have ix := idx7_0
      go_wp2_with fail
      refine (head_ a A c _ HG.out HT'.out h3').mono ?_
      rintro e w1 ⟨t, rfl, h1, h2, h4⟩
      have hbu1 := bld_below hbu.out h4
      have hl := text_line (a := a) (k := 0) rfl h1 h2 hlen
      have hz := h4.size
      have hw1 := hb.trans (h4.mono hb.size)
      clear h4
      have HL := Lib.hid hl
      have HB := Lib.hid hbu1
      have HW := Lib.hid hw1
      clear hl hbu1 hw1 hbu hb
      go_wp2_with fail
      refine (bldWrite (w.heap.size + 1 + 1) (w.heap.size + 1 + 1) _ _ _ HB.out (by rw [Lib.byteCells_length, ByteArray.size_append, show (⟨#[10]⟩ : ByteArray).size = 1 from rfl]; omega) (by omega)).mono ?_
      rintro e w2 ⟨rfl, h5, h6⟩
      go_wp2_with fail
      go_roundw
      case rel => (first | exact ⟨1, by omega, rfl, .inr (by rw [← HL.out.1]; exact h5), HL.out.2, HW.out.trans (h6.mono (by omega)), by have := h6.size; omega⟩ | ((repeat apply Exists.intro); refine ⟨⟨1, by omega, rfl, .inr (by rw [← HL.out.1]; exact h5), HL.out.2, HW.out.trans (h6.mono (by omega)), by have := h6.size; omega⟩, ?_⟩; (repeat refine ⟨rfl, ?_⟩); exact rfl))
      case measure => simp [intOf]
    · have ix := idx7_1
      go_wp2_with fail
      refine (time_ a A c _ HG.out HT'.out h3').mono ?_
      rintro e w1 ⟨t, rfl, h1, h2, h4⟩
      have hbu1 := bld_below hbu.out h4
      have hl := text_line (a := a) (k := 1) rfl h1 h2 hlen
      have hz := h4.size
      have hw1 := hb.trans (h4.mono hb.size)
      clear h4
      have HL := Lib.hid hl
      have HB := Lib.hid hbu1
      have HW := Lib.hid hw1
      clear hl hbu1 hw1 hbu hb
      go_wp2_with fail
      refine (bldWrite (w.heap.size + 1 + 1) (w.heap.size + 1 + 1) _ _ _ HB.out (by rw [Lib.byteCells_length, ByteArray.size_append, show (⟨#[10]⟩ : ByteArray).size = 1 from rfl]; omega) (by omega)).mono ?_
      rintro e w2 ⟨rfl, h5, h6⟩
      go_wp2_with fail
      go_roundw
      case rel => (first | exact ⟨2, by omega, rfl, .inr (by rw [← HL.out.1]; exact h5), HL.out.2, HW.out.trans (h6.mono (by omega)), by have := h6.size; omega⟩ | ((repeat apply Exists.intro); refine ⟨⟨2, by omega, rfl, .inr (by rw [← HL.out.1]; exact h5), HL.out.2, HW.out.trans (h6.mono (by omega)), by have := h6.size; omega⟩, ?_⟩; (repeat refine ⟨rfl, ?_⟩); exact rfl))
      case measure => simp [intOf]
    · have ix := idx7_2
      go_wp2_with fail
      refine (chance_ a A c _ HG.out HT'.out h3').mono ?_
      rintro e w1 ⟨t, rfl, h1, h2, h4⟩
      have hbu1 := bld_below hbu.out h4
      have hl := text_line (a := a) (k := 2) rfl h1 h2 hlen
      have hz := h4.size
      have hw1 := hb.trans (h4.mono hb.size)
      clear h4
      have HL := Lib.hid hl
      have HB := Lib.hid hbu1
      have HW := Lib.hid hw1
      clear hl hbu1 hw1 hbu hb
      go_wp2_with fail
      refine (bldWrite (w.heap.size + 1 + 1) (w.heap.size + 1 + 1) _ _ _ HB.out (by rw [Lib.byteCells_length, ByteArray.size_append, show (⟨#[10]⟩ : ByteArray).size = 1 from rfl]; omega) (by omega)).mono ?_
      rintro e w2 ⟨rfl, h5, h6⟩
      go_wp2_with fail
      go_roundw
      case rel => (first | exact ⟨3, by omega, rfl, .inr (by rw [← HL.out.1]; exact h5), HL.out.2, HW.out.trans (h6.mono (by omega)), by have := h6.size; omega⟩ | ((repeat apply Exists.intro); refine ⟨⟨3, by omega, rfl, .inr (by rw [← HL.out.1]; exact h5), HL.out.2, HW.out.trans (h6.mono (by omega)), by have := h6.size; omega⟩, ?_⟩; (repeat refine ⟨rfl, ?_⟩); exact rfl))
      case measure => simp [intOf]
    · have ix := idx7_3
      go_wp2_with fail
      refine (grid_ a A c _ HG.out HT'.out h3').mono ?_
      rintro e w1 ⟨t, rfl, h1, h2, h4⟩
      have hbu1 := bld_below hbu.out h4
      have hl := text_line (a := a) (k := 3) rfl h1 h2 hlen
      have hz := h4.size
      have hw1 := hb.trans (h4.mono hb.size)
      clear h4
      have HL := Lib.hid hl
      have HB := Lib.hid hbu1
      have HW := Lib.hid hw1
      clear hl hbu1 hw1 hbu hb
      go_wp2_with fail
      refine (bldWrite (w.heap.size + 1 + 1) (w.heap.size + 1 + 1) _ _ _ HB.out (by rw [Lib.byteCells_length, ByteArray.size_append, show (⟨#[10]⟩ : ByteArray).size = 1 from rfl]; omega) (by omega)).mono ?_
      rintro e w2 ⟨rfl, h5, h6⟩
      go_wp2_with fail
      go_roundw
      case rel => (first | exact ⟨4, by omega, rfl, .inr (by rw [← HL.out.1]; exact h5), HL.out.2, HW.out.trans (h6.mono (by omega)), by have := h6.size; omega⟩ | ((repeat apply Exists.intro); refine ⟨⟨4, by omega, rfl, .inr (by rw [← HL.out.1]; exact h5), HL.out.2, HW.out.trans (h6.mono (by omega)), by have := h6.size; omega⟩, ?_⟩; (repeat refine ⟨rfl, ?_⟩); exact rfl))
      case measure => simp [intOf]
    · have ix := idx7_4
      go_wp2_with fail
      refine (where_ a A c _ _ HG.out HS'.out (Nat.le_refl _) HT'.out h3').mono ?_
      rintro e w1 ⟨t, rfl, h1, h2, h4⟩
      have hbu1 := bld_below hbu.out h4
      have hl := text_line (a := a) (k := 4) rfl h1 h2 hlen
      have hz := h4.size
      have hw1 := hb.trans (h4.mono hb.size)
      clear h4
      have HL := Lib.hid hl
      have HB := Lib.hid hbu1
      have HW := Lib.hid hw1
      clear hl hbu1 hw1 hbu hb
      go_wp2_with fail
      refine (bldWrite (w.heap.size + 1 + 1) (w.heap.size + 1 + 1) _ _ _ HB.out (by rw [Lib.byteCells_length, ByteArray.size_append, show (⟨#[10]⟩ : ByteArray).size = 1 from rfl]; omega) (by omega)).mono ?_
      rintro e w2 ⟨rfl, h5, h6⟩
      go_wp2_with fail
      go_roundw
      case rel => (first | exact ⟨5, by omega, rfl, .inr (by rw [← HL.out.1]; exact h5), HL.out.2, HW.out.trans (h6.mono (by omega)), by have := h6.size; omega⟩ | ((repeat apply Exists.intro); refine ⟨⟨5, by omega, rfl, .inr (by rw [← HL.out.1]; exact h5), HL.out.2, HW.out.trans (h6.mono (by omega)), by have := h6.size; omega⟩, ?_⟩; (repeat refine ⟨rfl, ?_⟩); exact rfl))
      case measure => simp [intOf]
    · have ix := idx7_5
      go_wp2_with fail
      refine (before_ a A c _ HG.out HT'.out h3').mono ?_
      rintro e w1 ⟨t, rfl, h1, h2, h4⟩
      have hbu1 := bld_below hbu.out h4
      have hl := text_line (a := a) (k := 5) rfl h1 h2 hlen
      have hz := h4.size
      have hw1 := hb.trans (h4.mono hb.size)
      clear h4
      have HL := Lib.hid hl
      have HB := Lib.hid hbu1
      have HW := Lib.hid hw1
      clear hl hbu1 hw1 hbu hb
      go_wp2_with fail
      refine (bldWrite (w.heap.size + 1 + 1) (w.heap.size + 1 + 1) _ _ _ HB.out (by rw [Lib.byteCells_length, ByteArray.size_append, show (⟨#[10]⟩ : ByteArray).size = 1 from rfl]; omega) (by omega)).mono ?_
      rintro e w2 ⟨rfl, h5, h6⟩
      go_wp2_with fail
      go_roundw
      case rel => (first | exact ⟨6, by omega, rfl, .inr (by rw [← HL.out.1]; exact h5), HL.out.2, HW.out.trans (h6.mono (by omega)), by have := h6.size; omega⟩ | ((repeat apply Exists.intro); refine ⟨⟨6, by omega, rfl, .inr (by rw [← HL.out.1]; exact h5), HL.out.2, HW.out.trans (h6.mono (by omega)), by have := h6.size; omega⟩, ?_⟩; (repeat refine ⟨rfl, ?_⟩); exact rfl))
      case measure => simp [intOf]
    · have ix := idx7_6
      go_wp2_with fail
      refine (end_ a A c _).mono ?_
      rintro e w1 ⟨t, rfl, h1, h2, h4⟩
      have hbu1 := bld_below hbu.out h4
      have hl := text_line (a := a) (k := 6) rfl h1 h2 hlen
      have hz := h4.size
      have hw1 := hb.trans (h4.mono hb.size)
      clear h4
      have HL := Lib.hid hl
      have HB := Lib.hid hbu1
      have HW := Lib.hid hw1
      clear hl hbu1 hw1 hbu hb
      go_wp2_with fail
      refine (bldWrite (w.heap.size + 1 + 1) (w.heap.size + 1 + 1) _ _ _ HB.out (by rw [Lib.byteCells_length, ByteArray.size_append, show (⟨#[10]⟩ : ByteArray).size = 1 from rfl]; omega) (by omega)).mono ?_
      rintro e w2 ⟨rfl, h5, h6⟩
      go_wp2_with fail
      go_roundw
      case rel => (first | exact ⟨7, by omega, rfl, .inr (by rw [← HL.out.1]; exact h5), HL.out.2, HW.out.trans (h6.mono (by omega)), by have := h6.size; omega⟩ | ((repeat apply Exists.intro); refine ⟨⟨7, by omega, rfl, .inr (by rw [← HL.out.1]; exact h5), HL.out.2, HW.out.trans (h6.mono (by omega)), by have := h6.size; omega⟩, ?_⟩; (repeat refine ⟨rfl, ?_⟩); exact rfl))
      case measure => simp [intOf]
    · have HF : Hid (linesTo a 7 = textL a) := rfl
      have HB := Lib.hid hbu.out
      clear hbu
      go_wp2_with (go_at_call 118; refine (Tryz.Builder_String_any (w.heap.size + 1 + 1) (w.heap.size + 1 + 1) _ _ HB.out (by omega)).mono ?_; rintro e w2 ⟨rfl, h6⟩)
      go_ret
      exact ⟨ret_str (by rw [HF.out]), hb.trans (h6.mono (by omega))⟩
end Go.Proofs.YtohfofecbdfkgaaGreatDoor

/-
  The walk of the specification's 'text'.
-/
namespace Go.Proofs.YtohfofecbdfkgaaGreatDoor
open Go.RowKit Al

def CutRel (a : Alr) (W : World) (s : Value) (wx : World) : Prop := ∃ (t : ByteArray) (n : Nat), s = .string t ∧ Hid (t.data.toList = preL a) ∧ t.size ≤ 8192 ∧ wx = W.drewN n
def RtRel (a : Alr) (word : List UInt8) (s i : Value) : Prop := ∃ (k : Nat) (t : ByteArray), k ≤ a.cells.length ∧ s = .string t ∧ i = .int .i64 k ∧ t.size ≤ 8201 + 11 * k ∧ Hid (t.data.toList = preL a ++ rowL word (a.cells.take k))

theorem rt_next {a : Alr} {word : List UInt8} {k : Nat} {r : ByteArray} (h : k < a.cells.length) (hr : Hid (r.data.toList = preL a ++ rowL word (a.cells.take k))) :
    Hid ((r ++ (⟨#[32]⟩ : ByteArray) ++ ⟨(Lib.itoa a.cells[k]).toArray⟩).data.toList = preL a ++ rowL word (a.cells.take (k + 1))) := by
  show _ = _
  rw [str_add, str_add, hr.out, take_snoc h, rowL_snoc]
  simp
theorem rt_size {r : ByteArray} {k : Nat} {l : List UInt8} (h : r.size ≤ 8201 + 11 * k) (hl : l.length ≤ 10) : (r ++ (⟨#[32]⟩ : ByteArray) ++ ⟨l.toArray⟩).size ≤ 8201 + 11 * (k + 1) := by
  have e : (⟨l.toArray⟩ : ByteArray).size = l.length := by simp [ByteArray.size_mk']
  rw [ByteArray.size_append, ByteArray.size_append, show (⟨#[32]⟩ : ByteArray).size = 1 from rfl, e]
  omega
theorem rt_end {a : Alr} {word : List UInt8} {r : ByteArray} (hw : whereL a = rowL word a.cells) (hr : Hid (r.data.toList = preL a ++ rowL word (a.cells.take a.cells.length))) :
    (r ++ (⟨#[10, 98, 101, 102, 111, 114, 101, 32]⟩ : ByteArray) ++ ⟨(Lib.itoa a.before).toArray⟩ ++ (⟨#[10, 101, 110, 100, 10]⟩ : ByteArray)).data.toList = textL a := by
  rw [str_add, str_add, str_add, hr.out, List.take_of_length_le (Nat.le_refl _), textL_pre, hw]
  simp
set_option maxRecDepth 100000 in
set_option maxHeartbeats 4000000 in
theorem rtext_ (a : Alr) (A : Option Addr) (c B : Nat) (w : World) (hg : AlGood a) (h : Sl w B 1 A a.cells.length c (ints a.cells)) (hB : B ≤ w.heap.size) :
    Calls Tryz.prog 80 #[a.val A c] w fun e w' => e = .returned (.string ⟨(textL a).toArray⟩) ∧ Below w.heap.size w w' := by
  have hev := hg.ev
  have l1 := itoa_len hg.ver.1 hg.ver.2
  have l2 := itoa_len hg.tm.1 hg.tm.2
  have l3 := itoa_len hg.n.1 hg.n.2
  have l4 := itoa_len hg.of.1 hg.of.2
  have l5 := itoa_len hg.grid.1 hg.grid.2
  have l6 := itoa_len hg.before.1 hg.before.2
  have hmany := hg.many
  obtain ⟨v1, v2⟩ := hg.ver
  obtain ⟨v3, v4⟩ := hg.tm
  obtain ⟨v5, v6⟩ := hg.n
  obtain ⟨v7, v8⟩ := hg.of
  obtain ⟨v9, v10⟩ := hg.grid
  obtain ⟨v11, v12⟩ := hg.before
  have HG := Lib.hid hg
  have HS := Lib.hid h
  clear hg h
  go_enter Tryz.func80, Tryz.ntmps80
  go_upto_region 1 with fail
  go_cut [3] (fun s wx => CutRel a (w.alloc (.cells (a.val A c).cells 48)) s wx)
  case first =>
    go_quiet ((go_at_call 119; exact quiet0 (decimal_ _ (by assumption) (by assumption) _)))
    go_wp2
    go_meet
    case rel => exact ⟨_, _, rfl, by show _ = _; simp [preL, ByteArray.data_append], by simp [ByteArray.size_append, ByteArray.size_mk']; omega, rfl⟩
  case rest =>
    obtain ⟨t, n, rfl, hp, hsz, rfl⟩ := hcut
    by_cases hw : a.wd = true
    · have HW := Lib.hid hw
      go_wp2
      go_loop [3, 4] (fun s i => RtRel a [119, 105, 116, 104, 100, 114, 97, 119, 110] s i) (fun _ i => a.cells.length - (intOf i).toNat)
      case atStart => exact ⟨0, _, Nat.zero_le _, rfl, rfl, by simp [ByteArray.size_append, ByteArray.size_mk']; omega, by show _ = _; rw [str_add, hp.out, List.take_zero, rowL_nil]⟩
      case round =>
        obtain ⟨k, r, hk, rfl, rfl, hrz, hr⟩ := hrel
        by_cases hlt : k < a.cells.length
        · obtain ⟨b, off, rfl, hbb, hc⟩ := HS.out.int_at hlt hlt
          have hc1 : b < w.heap.size := by omega
          obtain ⟨w1, w2⟩ := HG.out.cells a.cells[k] (List.getElem_mem hlt)
          have lk := itoa_len w1 w2
          have hlt' : (k : Int) < (a.cells.length : Int) := by omega
          have HN := Lib.hid (rt_next hlt hr)
          go_wp2_with (go_at_call 119; refine (decimal_ _ w1 w2 _).mono ?_; rintro e w' ⟨rfl, rfl⟩)
          go_round
          case rel => (first | exact ⟨k + 1, _, by omega, rfl, by go_num, rt_size hrz lk, HN.out⟩ | ((repeat apply Exists.intro); refine ⟨⟨k + 1, _, by omega, rfl, by go_num, rt_size hrz lk, HN.out⟩, ?_⟩; (repeat refine ⟨rfl, ?_⟩); exact rfl))
          case measure => simp [intOf]; omega
        · obtain rfl : k = a.cells.length := by omega
          have HF := Lib.hid (rt_end (a := a) (word := [119, 105, 116, 104, 100, 114, 97, 119, 110]) (by rw [whereL_t HW.out, HG.out.wd HW.out, rowL_nil]) hr)
          go_wp2_with (go_at_call 119; refine (decimal_ _ v11 v12 _).mono ?_; rintro e w' ⟨rfl, rfl⟩)
          go_ret
          exact ⟨ret_str (bytes_eq HF.out), (by repeat (first | exact Below.refl _ _ | assumption | refine below_drewN ?_ _ | refine Below.drew ?_ | refine Below.setCell ?_ (by first | omega | (simp; done) | (simp; omega)) _ | refine Below.alloc ?_ (by first | omega | (simp; done) | (simp; omega)) _))⟩
    · have hw' : a.wd = false := by simpa using hw
      have HW := Lib.hid hw
      clear hw
      go_wp2
      go_loop [3, 4] (fun s i => RtRel a [99, 101, 108, 108, 115] s i) (fun _ i => a.cells.length - (intOf i).toNat)
      case atStart => exact ⟨0, _, Nat.zero_le _, rfl, rfl, by simp [ByteArray.size_append, ByteArray.size_mk']; omega, by show _ = _; rw [str_add, hp.out, List.take_zero, rowL_nil]⟩
      case round =>
        obtain ⟨k, r, hk, rfl, rfl, hrz, hr⟩ := hrel
        by_cases hlt : k < a.cells.length
        · obtain ⟨b, off, rfl, hbb, hc⟩ := HS.out.int_at hlt hlt
          have hc1 : b < w.heap.size := by omega
          obtain ⟨w1, w2⟩ := HG.out.cells a.cells[k] (List.getElem_mem hlt)
          have lk := itoa_len w1 w2
          have hlt' : (k : Int) < (a.cells.length : Int) := by omega
          have HN := Lib.hid (rt_next hlt hr)
          go_wp2_with (go_at_call 119; refine (decimal_ _ w1 w2 _).mono ?_; rintro e w' ⟨rfl, rfl⟩)
          go_round
          case rel => (first | exact ⟨k + 1, _, by omega, rfl, by go_num, rt_size hrz lk, HN.out⟩ | ((repeat apply Exists.intro); refine ⟨⟨k + 1, _, by omega, rfl, by go_num, rt_size hrz lk, HN.out⟩, ?_⟩; (repeat refine ⟨rfl, ?_⟩); exact rfl))
          case measure => simp [intOf]; omega
        · obtain rfl : k = a.cells.length := by omega
          have HF := Lib.hid (rt_end (a := a) (word := [99, 101, 108, 108, 115]) (by rw [whereL_f HW.out]) hr)
          go_wp2_with (go_at_call 119; refine (decimal_ _ v11 v12 _).mono ?_; rintro e w' ⟨rfl, rfl⟩)
          go_ret
          exact ⟨ret_str (bytes_eq HF.out), (by repeat (first | exact Below.refl _ _ | assumption | refine below_drewN ?_ _ | refine Below.drew ?_ | refine Below.setCell ?_ (by first | omega | (simp; done) | (simp; omega)) _ | refine Below.alloc ?_ (by first | omega | (simp; done) | (simp; omega)) _))⟩
end Go.Proofs.YtohfofecbdfkgaaGreatDoor

/-
  The walks of the two functions that reckon the digest.
-/
namespace Go.Proofs.YtohfofecbdfkgaaGreatDoor
open Go.RowKit Al

theorem conv_below (w : World) (e : TypeId) (s : ByteArray) : Below w.heap.size w (Lib.bytesWorld w e s) :=
  ⟨rfl, rfl, rfl, by rw [Lib.bytesWorld_size]; omega, fun k hk => Lib.bytesWorld_at_old w e s k hk⟩
theorem dig_next {l : List UInt8} {k : Nat} (h : k < l.length) : digL (l.take (k + 1)) = (digL (l.take k) * 31 + (l[k].toNat : Int) + 1) % 2147483647 := by
  rw [List.take_succ_eq_append_getElem h, digL_snoc]
/-- []byte(s): what is known of it. -/
theorem conv_ (w : World) (l : List UInt8) : ∃ (cp : Nat) (w' : World), (convert 9 140 (.string ⟨l.toArray⟩)).run Tryz.prog w = .ok (.slice (some ⟨w.heap.size, 0, none⟩) l.length cp) w' ∧ Below w.heap.size w w' ∧
    ∀ j (hj : j < l.length), w'.cell? ⟨w.heap.size, j, none⟩ = some (.int .u8 (l[j].toNat : Int)) := by
  have hsz : (⟨l.toArray⟩ : ByteArray).size = l.length := by simp [ByteArray.size_mk']
  have h := Lib.run_convert_string_bytes (P := Tryz.prog) w 9 140 5 (⟨l.toArray⟩ : ByteArray) Tryz.underlying9 Tryz.underlying140 Tryz.underlying5
  refine ⟨_, _, by rw [h, hsz], conv_below _ _ _, fun j hj => ?_⟩
  rw [Lib.bytesWorld_cell w _ _ j (by rw [hsz]; exact hj)]
  simp [List.getD, hj]

def DgRel (l : List UInt8) (n i : Value) : Prop := ∃ k : Nat, k ≤ l.length ∧ n = .int .i64 (digL (l.take k)) ∧ i = .int .i64 k

set_option maxRecDepth 100000 in
theorem digest_ (a : Alr) (A : Option Addr) (c B : Nat) (w : World) (hg : AlGood a) (h : Sl w B 1 A a.cells.length c (ints a.cells)) (hB : B ≤ w.heap.size) (ht : Tab w) (h3 : 8 ≤ w.heap.size) :
    Calls Tryz.prog 47 #[a.val A c] w fun e w' => e = .returned (.int .i64 (digA a)) ∧ Below w.heap.size w w' := by
  have hlen := Lib.hid (textL_len hg)
  have HG := Lib.hid hg
  have HT := Lib.hid ht
  have HS := Lib.hid h
  clear hg ht h
  go_enter Tryz.func47, Tryz.ntmps47
  go_wp2_with fail
  refine (text_ a A c B _ HG.out (HS.out.alloc hB _) (by simp; omega) (HT.out.below (B := w.heap.size) (by omega) (by repeat (first | exact Below.refl _ _ | assumption | refine below_drewN ?_ _ | refine Below.drew ?_ | refine Below.setCell ?_ (by first | omega | (simp; done) | (simp; omega)) _ | refine Below.alloc ?_ (by first | omega | (simp; done) | (simp; omega)) _))) (by simp; omega)).mono ?_
  rintro e w1 ⟨rfl, hb⟩
  have hz := hb.size
  simp at hz
  have hw1 : Below w.heap.size w w1 := (show Below w.heap.size w _ from (by repeat (first | exact Below.refl _ _ | assumption | refine below_drewN ?_ _ | refine Below.drew ?_ | refine Below.setCell ?_ (by first | omega | (simp; done) | (simp; omega)) _ | refine Below.alloc ?_ (by first | omega | (simp; done) | (simp; omega)) _))).trans (hb.mono (by simp))
  clear hb
  obtain ⟨cp, w2, hcv, hb2, hcell⟩ := conv_ w1 (textL a)
  have HC := Lib.hid hcv
  have HB := Lib.hid (hw1.trans (hb2.mono hw1.size))
  have HL := Lib.hid hcell
  clear hcv hb2 hcell hw1
  have hlen' : (textL a).length ≤ 1048576 := hlen.out
  have HD : Hid (digA a = digL (textL a)) := rfl
  go_wp2_with fail
  rw [HC.out]
  simp only [Result.andThen]
  rw [Oper.upon_value]
  clear HC HG HT HS hlen
  generalize textL a = l at *
  go_wp2_with fail
  go_loop [3, 10] (fun n i => DgRel l n i) (fun _ i => l.length - (intOf i).toNat)
  case atStart => exact ⟨0, Nat.zero_le _, rfl, rfl⟩
  case round =>
    obtain ⟨k, hk, rfl, rfl⟩ := hrel
    obtain ⟨d1, d2⟩ := digL_in (l.take k)
    by_cases hlt : k < l.length
    · have hc := HL.out k hlt
      have hlt' : (k : Int) < (l.length : Int) := by omega
      have hu := l[k].toNat_lt
      have HN := Lib.hid (dig_next hlt)
      go_wp2_with fail
      go_round
      case rel => (first | exact ⟨k + 1, by omega, by rw [HN.out], by go_num⟩ | ((repeat apply Exists.intro); refine ⟨⟨k + 1, by omega, by rw [HN.out], by go_num⟩, ?_⟩; (repeat refine ⟨rfl, ?_⟩); exact rfl))
      case measure => simp [intOf]; omega
    · obtain rfl : k = l.length := by omega
      go_wp2_with fail
      go_ret
      exact ⟨ret_int (by rw [HD.out]), HB.out⟩

set_option maxRecDepth 100000 in
theorem rdigest_ (a : Alr) (A : Option Addr) (c B : Nat) (w : World) (hg : AlGood a) (h : Sl w B 1 A a.cells.length c (ints a.cells)) (hB : B ≤ w.heap.size) :
    Calls Tryz.prog 89 #[a.val A c] w fun e w' => e = .returned (.int .i64 (digA a)) ∧ Below w.heap.size w w' := by
  have hlen := Lib.hid (textL_len hg)
  have HG := Lib.hid hg
  have HS := Lib.hid h
  clear hg h
  go_enter Tryz.func89, Tryz.ntmps89
  go_wp2_with fail
  refine (rtext_ a A c B _ HG.out (HS.out.alloc hB _) (by simp; omega)).mono ?_
  rintro e w1 ⟨rfl, hb⟩
  have HB := Lib.hid ((show Below w.heap.size w _ from (by repeat (first | exact Below.refl _ _ | assumption | refine below_drewN ?_ _ | refine Below.drew ?_ | refine Below.setCell ?_ (by first | omega | (simp; done) | (simp; omega)) _ | refine Below.alloc ?_ (by first | omega | (simp; done) | (simp; omega)) _))).trans (hb.mono (by simp)))
  clear hb
  have hlen' : (textL a).length ≤ 1048576 := hlen.out
  have HD : Hid (digA a = digL (textL a)) := rfl
  clear HG HS hlen
  generalize textL a = l at *
  go_wp2_with fail
  go_loop [3, 5] (fun n i => DgRel l n i) (fun _ i => l.length - (intOf i).toNat)
  case atStart => exact ⟨0, Nat.zero_le _, rfl, rfl⟩
  case round =>
    obtain ⟨k, hk, rfl, rfl⟩ := hrel
    obtain ⟨d1, d2⟩ := digL_in (l.take k)
    by_cases hlt : k < l.length
    · have hlt' : (k : Int) < (l.length : Int) := by omega
      have hsz : k < (⟨l.toArray⟩ : ByteArray).size := by simpa [ByteArray.size_mk'] using hlt
      have hix : (⟨l.toArray⟩ : ByteArray)[k] = l[k] := by
        show l.toArray[k] = l[k]
        simp
      have hu := l[k].toNat_lt
      have HN := Lib.hid (dig_next hlt)
      go_wp2_with fail
      go_round
      case rel => (first | exact ⟨k + 1, by omega, by rw [HN.out], by go_num⟩ | ((repeat apply Exists.intro); refine ⟨⟨k + 1, by omega, by rw [HN.out], by go_num⟩, ?_⟩; (repeat refine ⟨rfl, ?_⟩); exact rfl))
      case measure => simp [intOf]; omega
    · obtain rfl : k = l.length := by omega
      go_wp2_with fail
      go_ret
      exact ⟨ret_int (by rw [HD.out]), HB.out⟩
end Go.Proofs.YtohfofecbdfkgaaGreatDoor

/-
  The walk of the specification's function that asks whether an alert is valid.
-/
namespace Go.Proofs.YtohfofecbdfkgaaGreatDoor
open Go.RowKit Al

theorem Ins_ (n lo hi : Int) (w : World) :
    Calls Tryz.prog 76 #[.int .i64 n, .int .i64 lo, .int .i64 hi] w fun e w' => e = .returned (.bool (inB n lo hi)) ∧ w' = w :=
  (In_ n lo hi w).mono fun _ _ ⟨h, e⟩ => ⟨h, e.symm⟩

def CkRel (a : Alr) (s i : Value) : Prop := ∃ (k : Nat) (b : Bool), k ≤ a.cells.length ∧ s = .bool b ∧ i = .int .i64 k ∧ Hid ((b && rising (prevOf a.cells k) (manyCells a.grid) (a.cells.drop k)) = okA a) ∧
  Hid (b = true → pre2 a = true ∧ (0 < k → 0 ≤ prevOf a.cells k))

set_option maxRecDepth 100000 in
set_option maxHeartbeats 1000000 in
theorem rcheck_ (a : Alr) (A : Option Addr) (c B : Nat) (w : World) (hs : a.ev.size ≤ maxLen) (h : Sl w B 1 A a.cells.length c (ints a.cells)) (hB : B ≤ w.heap.size) :
    Calls Tryz.prog 33 #[a.val A c] w fun e w' => e = .returned (.int .i64 (errA (okA a) 101)) ∧ Below w.heap.size w w' := by
  have HE := Lib.hid hs
  have hlen : a.cells.length ≤ maxLen := Nat.le_trans h.cap h.max
  unfold maxLen at hlen
  clear hs
  go_enter Tryz.func33, Tryz.ntmps33
  go_upto_region 1 with fail
  go_cut [3] (fun s wx => s = .bool (pre1 a) ∧ wx = w.alloc (.cells (a.val A c).cells 48))
  case first =>
    go_wp2_with (first
      | (go_at_call 75; refine (rIsName_ _ _ HE.out).mono ?_; rintro e w' ⟨rfl, rfl⟩)
      | (go_at_call 76; refine (In_ _ _ _ _).mono ?_; rintro e w' ⟨rfl, rfl⟩))
    all_goals
      go_meet
      case rel => exact ⟨by first | (simp [pre1, *]; done) | (simp [pre1, *]; intros; omega) | (unfold pre1; simp_all; done), rfl⟩
  case rest =>
    obtain ⟨rfl, rfl⟩ := hcut
    go_upto_region 2 with fail
    go_cut [3] (fun s wx => s = .bool (pre2 a) ∧ wx = w.alloc (.cells (a.val A c).cells 48))
    case first =>
      go_wp2_with (go_at_call 76; refine (In_ _ _ _ _).mono ?_; rintro e w' ⟨rfl, rfl⟩)
      all_goals
        go_meet
        case rel => exact ⟨by first | (simp [pre2, *]; done) | (simp [pre2, *]; intros; omega) | (unfold pre2; simp_all; done), rfl⟩
    case rest =>
      obtain ⟨rfl, rfl⟩ := hcut
      go_wp2
      go_loopw [3, 4] (fun s i wr => CkRel a s i ∧ ∃ n, wr = (w.alloc (.cells (a.val A c).cells 48)).drewN n) (fun _ i _ => a.cells.length - (intOf i).toNat)
      case atStart => exact ⟨⟨0, pre2 a, Nat.zero_le _, rfl, rfl, (okA_pre a).symm, fun hp => ⟨hp, fun h0 => absurd h0 (by omega)⟩⟩, 0, rfl⟩
      case round =>
        obtain ⟨⟨k, b, hk, rfl, rfl, hp, hq⟩, n, rfl⟩ := hrel
        by_cases hlt : k < a.cells.length
        · cases b with
          | true =>
            have hgr := pre2_grid (hq.out rfl).1
            have bg := inB_true.1 hgr
            have e1 := Int.mul_le_mul_of_nonneg_right (show 6 * a.grid ≤ 48 by omega) (show 0 ≤ a.grid by omega)
            have e2 := Int.mul_nonneg (show 0 ≤ 6 * a.grid by omega) (show 0 ≤ a.grid by omega)
            have HO := Lib.hid (okAt_rising (many := manyCells a.grid) hlt (hq.out rfl).2)
            have HN := Lib.hid (okAt_nn (many := manyCells a.grid) hlt)
            have HG := Lib.hid (hq.out rfl).1
            have HP : Hid (rising (prevOf a.cells k) (manyCells a.grid) (a.cells.drop k) = okA a) := by
              show _ = _
              rw [← hp.out, Bool.true_and]
            obtain ⟨bk, off, rfl, hb, hc⟩ := h.int_at hlt hlt
            have hne : bk < w.heap.size := by omega
            have hlt' : (k : Int) < (a.cells.length : Int) := by omega
            have hk0 : (0 : Int) ≤ (k : Int) := by omega
            clear hgr hp hq
            by_cases h1 : inB a.cells[k] 0 (6 * a.grid * a.grid - 1) = true
            · by_cases h2 : k = 0
              · have h2' : ((k : Int) == 0) = true := by rw [h2]; rfl
                have hok := Lib.hid (okAt_first (l := a.cells) (many := manyCells a.grid) h1 h2)
                have H1 := Lib.hid h1
                clear h1 h2
                go_wp2
                go_quiet ((go_at_call 76; first | exact quietAdd (In_is _ _ _ _ H1.out _) | exact quiet0 (In_is _ _ _ _ H1.out _)))
                go_wp2
                go_roundw
                case rel => exact ⟨⟨k + 1, true, by omega, rfl, by go_num, by show _ = _; rw [← HP.out, ← HO.out, hok.out], fun _ => ⟨HG.out, HN.out hok.out⟩⟩, _, rfl⟩
                case measure => simp [intOf]; omega
              · have h2' : ((k : Int) == 0) = false := by simpa using h2
                have hk1 : (0 : Int) ≤ (k : Int) - 1 := by omega
                have hk2 : (k : Int) - 1 < (a.cells.length : Int) := by omega
                have hkn : ((k : Int) - 1).toNat = k - 1 := by omega
                have hc' : w.cell? ⟨bk, off + (k - 1), none⟩ = some (.int .i64 a.cells[k - 1]) := by
                  obtain ⟨b1, o1, e1, _, hc1⟩ := h.int_at (show k - 1 < a.cells.length by omega) (show k - 1 < a.cells.length by omega)
                  cases e1
                  exact hc1
                have hpv := prevOf_pos h2 (show k - 1 < a.cells.length by omega)
                by_cases h3 : a.cells[k - 1] < a.cells[k]
                · have hok := Lib.hid (okAt_lt (l := a.cells) (many := manyCells a.grid) (k := k) h1 (by rw [hpv]; exact h3))
                  have H1 := Lib.hid h1
                  clear h1 h2 hpv
                  go_wp2
                  go_quiet ((go_at_call 76; first | exact quietAdd (In_is _ _ _ _ H1.out _) | exact quiet0 (In_is _ _ _ _ H1.out _)))
                  go_wp2
                  go_roundw
                  case rel => exact ⟨⟨k + 1, true, by omega, rfl, by go_num, by show _ = _; rw [← HP.out, ← HO.out, hok.out], fun _ => ⟨HG.out, HN.out hok.out⟩⟩, _, rfl⟩
                  case measure => simp [intOf]; omega
                · have h3d := decide_eq_false h3
                  have hok := Lib.hid (okAt_ge (l := a.cells) (many := manyCells a.grid) (c := a.cells[k]) h2 (by rw [hpv]; exact h3))
                  have H1 := Lib.hid h1
                  clear h1 h2 hpv
                  go_wp2
                  go_quiet ((go_at_call 76; first | exact quietAdd (In_is _ _ _ _ H1.out _) | exact quiet0 (In_is _ _ _ _ H1.out _)))
                  go_wp2
                  go_roundw
                  case rel => exact ⟨⟨k + 1, false, by omega, rfl, by go_num, by show _ = _; rw [← HP.out, ← HO.out, hok.out, Bool.false_and], fun hf => by cases hf⟩, _, rfl⟩
                  case measure => simp [intOf]; omega
            · have h1' : inB a.cells[k] 0 (6 * a.grid * a.grid - 1) = false := by simpa using h1
              have hok := Lib.hid (okAt_no (l := a.cells) (many := manyCells a.grid) (k := k) h1')
              have H1 := Lib.hid h1'
              clear h1 h1'
              go_wp2
              go_quiet ((go_at_call 76; first | exact quietAdd (In_is _ _ _ _ H1.out _) | exact quiet0 (In_is _ _ _ _ H1.out _)))
              go_wp2
              go_roundw
              case rel => exact ⟨⟨k + 1, false, by omega, rfl, by go_num, by show _ = _; rw [← HP.out, ← HO.out, hok.out, Bool.false_and], fun hf => by cases hf⟩, _, rfl⟩
              case measure => simp [intOf]; omega
          | false =>
            have HR : Hid (okA a = false) := by
              show _ = _
              rw [← hp.out]; rfl
            clear hp hq
            go_wp2
            go_ret
            exact ⟨ret_int (by rw [HR.out]; rfl), (by repeat (first | exact Below.refl _ _ | assumption | refine below_drewN ?_ _ | refine Below.drew ?_ | refine Below.setCell ?_ (by first | omega | (simp; done) | (simp; omega)) _ | refine Below.alloc ?_ (by first | omega | (simp; done) | (simp; omega)) _))⟩
        · obtain rfl : k = a.cells.length := by omega
          have HR : Hid (okA a = b) := by
            show _ = _
            rw [← hp.out, rising_end, Bool.and_true]
          clear hp hq
          cases b
          all_goals
            go_wp2
            go_ret
            exact ⟨ret_int (by rw [HR.out]; rfl), (by repeat (first | exact Below.refl _ _ | assumption | refine below_drewN ?_ _ | refine Below.drew ?_ | refine Below.setCell ?_ (by first | omega | (simp; done) | (simp; omega)) _ | refine Below.alloc ?_ (by first | omega | (simp; done) | (simp; omega)) _))⟩
end Go.Proofs.YtohfofecbdfkgaaGreatDoor
