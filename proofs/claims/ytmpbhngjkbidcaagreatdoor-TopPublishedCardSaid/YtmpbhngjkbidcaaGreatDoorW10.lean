/-
  The walk of 'text': the lines of an alert, written one by one into a Builder by method values in an array.
-/
import Derived.Test.YtmpbhngjkbidcaaGreatDoorW09
import Derived.Deep.DeepCutAuto
import Derived.Lib.ConvBytes
import Derived.Test.YtmpbhngjkbidcaaGreatDoorW01
import Derived.WalkSmall
import Derived.Deep.RegionHeld3
namespace Go.Proofs.YtmpbhngjkbidcaaGreatDoor
open Go.RowKit Al

theorem bld_below {T e B b : Nat} {bs : List Value} {w w' : World} (h : Lib.IsBuilder T e B b bs w) (hb : Below w.heap.size w w') : Lib.IsBuilder T e B b bs w' := by
  have key : ∀ p, Lib.BuilderAt T e B b p bs w → Lib.BuilderAt T e B b p bs w' := by
    rintro p ⟨hB, v, hh, hown, hne⟩
    exact ⟨hB, v, by rw [hb.block b (Array.getElem?_eq_some_iff.1 hh).1]; exact hh, own_below hown (Nat.le_refl _) hb, hne⟩
  rcases h with h | h
  · exact .inl (key _ h)
  · exact .inr (key _ h)

theorem heap_third (w : World) (o1 o2 o3 : Obj) : (((w.alloc o1).alloc o2).alloc o3).heap[w.heap.size + 1 + 1]? = some o3 := by
  have h := heap_alloc_new ((w.alloc o1).alloc o2) o3
  rwa [World.size_alloc, World.size_alloc] at h
/-- The first k lines. -/
def linesTo (a : Alr) (k : Nat) : List UInt8 := ((lines a).take k).flatMap fun l => l ++ [10]
theorem linesTo_succ {a : Alr} {k : Nat} {l : List UInt8} (h : (lines a)[k]? = some l) : linesTo a (k + 1) = linesTo a k ++ (l ++ [10]) := by
  unfold linesTo
  rw [List.take_add_one, h, List.flatMap_append]
  simp
def TextRel (a : Alr) (w : World) (i : Value) (wr : World) : Prop := ∃ k : Nat, k ≤ 7 ∧ i = .int .i64 k ∧
  Hid (Lib.IsBuilder 174 5 (w.heap.size + 1 + 1) (w.heap.size + 1 + 1) (Lib.byteCells (linesTo a k)) wr) ∧ (linesTo a k).length ≤ 8193 * k ∧ Below w.heap.size w wr ∧ w.heap.size + 3 ≤ wr.heap.size
/-- One line more. -/
theorem text_line {a : Alr} {k : Nat} {t : ByteArray} {l : List UInt8} (hk : (lines a)[k]? = some l) (ht : Hid (t.data.toList = l)) (hsz : t.size ≤ 8192) (hlen : (linesTo a k).length ≤ 8193 * k) :
    Lib.byteCells (linesTo a k) ++ Lib.strCells (t ++ (⟨#[10]⟩ : ByteArray)) = Lib.byteCells (linesTo a (k + 1)) ∧ (linesTo a (k + 1)).length ≤ 8193 * (k + 1) := by
  have e : (t ++ (⟨#[10]⟩ : ByteArray)).data.toList = l ++ [10] := by rw [str_add, ht.out]
  have hl : l.length = t.size := by rw [← ht.out, Array.length_toList]; rfl
  refine ⟨?_, ?_⟩
  · rw [linesTo_succ hk, Lib.byteCells_append, Lib.strCells_eq, e]
  · rw [linesTo_succ hk]
    simp
    omega

theorem idx7_0 (x0 x1 x2 x3 x4 x5 x6 : Value) (w : World) : (Instr.index 176 (.agg #[x0, x1, x2, x3, x4, x5, x6]) (.int .i64 0)).run Tryz.prog w = .ok x0 w := by kernel_rfl
theorem idx7_1 (x0 x1 x2 x3 x4 x5 x6 : Value) (w : World) : (Instr.index 176 (.agg #[x0, x1, x2, x3, x4, x5, x6]) (.int .i64 1)).run Tryz.prog w = .ok x1 w := by kernel_rfl
theorem idx7_2 (x0 x1 x2 x3 x4 x5 x6 : Value) (w : World) : (Instr.index 176 (.agg #[x0, x1, x2, x3, x4, x5, x6]) (.int .i64 2)).run Tryz.prog w = .ok x2 w := by kernel_rfl
theorem idx7_3 (x0 x1 x2 x3 x4 x5 x6 : Value) (w : World) : (Instr.index 176 (.agg #[x0, x1, x2, x3, x4, x5, x6]) (.int .i64 3)).run Tryz.prog w = .ok x3 w := by kernel_rfl
theorem idx7_4 (x0 x1 x2 x3 x4 x5 x6 : Value) (w : World) : (Instr.index 176 (.agg #[x0, x1, x2, x3, x4, x5, x6]) (.int .i64 4)).run Tryz.prog w = .ok x4 w := by kernel_rfl
theorem idx7_5 (x0 x1 x2 x3 x4 x5 x6 : Value) (w : World) : (Instr.index 176 (.agg #[x0, x1, x2, x3, x4, x5, x6]) (.int .i64 5)).run Tryz.prog w = .ok x5 w := by kernel_rfl
theorem idx7_6 (x0 x1 x2 x3 x4 x5 x6 : Value) (w : World) : (Instr.index 176 (.agg #[x0, x1, x2, x3, x4, x5, x6]) (.int .i64 6)).run Tryz.prog w = .ok x6 w := by kernel_rfl

set_option maxRecDepth 100000 in
set_option maxHeartbeats 4000000 in
theorem text_ (a : Alr) (A : Option Addr) (c B : Nat) (w : World) (hg : AlGood a) (h : Sl w B 1 A a.cells.length c (ints a.cells)) (hB : B ≤ w.heap.size) (ht : Tab w) (h3 : 8 ≤ w.heap.size) :
    Calls Tryz.prog 53 #[a.val A c] w fun e w' => e = .returned (.string ⟨(textL a).toArray⟩) ∧ Below w.heap.size w w' := by
  have HG := Lib.hid hg
  have HT := Lib.hid ht
  have HS := Lib.hid h
  clear hg ht h
  go_enter Tryz.func53, Tryz.ntmps53
  go_wp2
  go_loopw [23] (fun i wr => TextRel a w i wr) (fun i _ => (7 - intOf i).toNat)
  case atStart =>
    refine ⟨0, by omega, rfl, .inl ⟨by omega, _, ?_, World.ownsRow_nil _ _ _ _, by simp [Value.ownBlock]⟩, by simp [linesTo], (by repeat (first | exact Below.refl _ _ | assumption | refine below_drewN ?_ _ | refine Below.drew ?_ | refine Below.setCell ?_ (by first | omega | (simp; done) | (simp; omega)) _ | refine Below.alloc ?_ (by first | omega | (simp; done) | (simp; omega)) _)), by simp⟩
    exact heap_third _ _ _ _
  case round =>
    obtain ⟨k, hk, rfl, hbu, hlen, hb, hsz⟩ := hrel
    have HT' := Lib.hid (HT.out.below (by omega) hb)
    have HS' := Lib.hid ((HS.out.below (hb.mono hB)).more (show B ≤ wr.heap.size by omega))
    have h3' : 8 ≤ wr.heap.size := by omega
    obtain rfl | rfl | rfl | rfl | rfl | rfl | rfl | rfl : k = 0 ∨ k = 1 ∨ k = 2 ∨ k = 3 ∨ k = 4 ∨ k = 5 ∨ k = 6 ∨ k = 7 := by omega
    · have ix := idx7_0
      go_wp2_with fail
      refine (head_ a A c _ HG.out HT'.out h3').mono ?_
      rintro e w1 ⟨t, rfl, h1, h2, h4⟩
      have hbu1 := bld_below hbu.out h4
      have hl := text_line (a := a) (k := 0) rfl h1 h2 hlen
      have hz := h4.size
      have hw1 := hb.trans (h4.mono hb.size)
      clear h4
      have HL := Lib.hid hl
      have HB := Lib.hid hbu1
      have HW := Lib.hid hw1
      clear hl hbu1 hw1 hbu hb
      go_wp2_with fail
      refine (bldWrite (w.heap.size + 1 + 1) (w.heap.size + 1 + 1) _ _ _ HB.out (by rw [Lib.byteCells_length, ByteArray.size_append, show (⟨#[10]⟩ : ByteArray).size = 1 from rfl]; omega) (by omega)).mono ?_
      rintro e w2 ⟨rfl, h5, h6⟩
      go_wp2_with fail
      go_roundw
      case rel => (first | exact ⟨1, by omega, rfl, .inr (by rw [← HL.out.1]; exact h5), HL.out.2, HW.out.trans (h6.mono (by omega)), by have := h6.size; omega⟩ | ((repeat apply Exists.intro); refine ⟨⟨1, by omega, rfl, .inr (by rw [← HL.out.1]; exact h5), HL.out.2, HW.out.trans (h6.mono (by omega)), by have := h6.size; omega⟩, ?_⟩; (repeat refine ⟨rfl, ?_⟩); exact rfl))
      case measure => simp [intOf]
    · have ix := idx7_1
      go_wp2_with fail
      refine (time_ a A c _ HG.out HT'.out h3').mono ?_
      rintro e w1 ⟨t, rfl, h1, h2, h4⟩
      have hbu1 := bld_below hbu.out h4
      have hl := text_line (a := a) (k := 1) rfl h1 h2 hlen
      have hz := h4.size
      have hw1 := hb.trans (h4.mono hb.size)
      clear h4
      have HL := Lib.hid hl
      have HB := Lib.hid hbu1
      have HW := Lib.hid hw1
      clear hl hbu1 hw1 hbu hb
      go_wp2_with fail
      refine (bldWrite (w.heap.size + 1 + 1) (w.heap.size + 1 + 1) _ _ _ HB.out (by rw [Lib.byteCells_length, ByteArray.size_append, show (⟨#[10]⟩ : ByteArray).size = 1 from rfl]; omega) (by omega)).mono ?_
      rintro e w2 ⟨rfl, h5, h6⟩
      go_wp2_with fail
      go_roundw
      case rel => (first | exact ⟨2, by omega, rfl, .inr (by rw [← HL.out.1]; exact h5), HL.out.2, HW.out.trans (h6.mono (by omega)), by have := h6.size; omega⟩ | ((repeat apply Exists.intro); refine ⟨⟨2, by omega, rfl, .inr (by rw [← HL.out.1]; exact h5), HL.out.2, HW.out.trans (h6.mono (by omega)), by have := h6.size; omega⟩, ?_⟩; (repeat refine ⟨rfl, ?_⟩); exact rfl))
      case measure => simp [intOf]
    · have ix := idx7_2
      go_wp2_with fail
      refine (chance_ a A c _ HG.out HT'.out h3').mono ?_
      rintro e w1 ⟨t, rfl, h1, h2, h4⟩
      have hbu1 := bld_below hbu.out h4
      have hl := text_line (a := a) (k := 2) rfl h1 h2 hlen
      have hz := h4.size
      have hw1 := hb.trans (h4.mono hb.size)
      clear h4
      have HL := Lib.hid hl
      have HB := Lib.hid hbu1
      have HW := Lib.hid hw1
      clear hl hbu1 hw1 hbu hb
      go_wp2_with fail
      refine (bldWrite (w.heap.size + 1 + 1) (w.heap.size + 1 + 1) _ _ _ HB.out (by rw [Lib.byteCells_length, ByteArray.size_append, show (⟨#[10]⟩ : ByteArray).size = 1 from rfl]; omega) (by omega)).mono ?_
      rintro e w2 ⟨rfl, h5, h6⟩
      go_wp2_with fail
      go_roundw
      case rel => (first | exact ⟨3, by omega, rfl, .inr (by rw [← HL.out.1]; exact h5), HL.out.2, HW.out.trans (h6.mono (by omega)), by have := h6.size; omega⟩ | ((repeat apply Exists.intro); refine ⟨⟨3, by omega, rfl, .inr (by rw [← HL.out.1]; exact h5), HL.out.2, HW.out.trans (h6.mono (by omega)), by have := h6.size; omega⟩, ?_⟩; (repeat refine ⟨rfl, ?_⟩); exact rfl))
      case measure => simp [intOf]
    · have ix := idx7_3
      go_wp2_with fail
      refine (grid_ a A c _ HG.out HT'.out h3').mono ?_
      rintro e w1 ⟨t, rfl, h1, h2, h4⟩
      have hbu1 := bld_below hbu.out h4
      have hl := text_line (a := a) (k := 3) rfl h1 h2 hlen
      have hz := h4.size
      have hw1 := hb.trans (h4.mono hb.size)
      clear h4
      have HL := Lib.hid hl
      have HB := Lib.hid hbu1
      have HW := Lib.hid hw1
      clear hl hbu1 hw1 hbu hb
      go_wp2_with fail
      refine (bldWrite (w.heap.size + 1 + 1) (w.heap.size + 1 + 1) _ _ _ HB.out (by rw [Lib.byteCells_length, ByteArray.size_append, show (⟨#[10]⟩ : ByteArray).size = 1 from rfl]; omega) (by omega)).mono ?_
      rintro e w2 ⟨rfl, h5, h6⟩
      go_wp2_with fail
      go_roundw
      case rel => (first | exact ⟨4, by omega, rfl, .inr (by rw [← HL.out.1]; exact h5), HL.out.2, HW.out.trans (h6.mono (by omega)), by have := h6.size; omega⟩ | ((repeat apply Exists.intro); refine ⟨⟨4, by omega, rfl, .inr (by rw [← HL.out.1]; exact h5), HL.out.2, HW.out.trans (h6.mono (by omega)), by have := h6.size; omega⟩, ?_⟩; (repeat refine ⟨rfl, ?_⟩); exact rfl))
      case measure => simp [intOf]
    · have ix := idx7_4
      go_wp2_with fail
      refine (where_ a A c _ _ HG.out HS'.out (Nat.le_refl _) HT'.out h3').mono ?_
      rintro e w1 ⟨t, rfl, h1, h2, h4⟩
      have hbu1 := bld_below hbu.out h4
      have hl := text_line (a := a) (k := 4) rfl h1 h2 hlen
      have hz := h4.size
      have hw1 := hb.trans (h4.mono hb.size)
      clear h4
      have HL := Lib.hid hl
      have HB := Lib.hid hbu1
      have HW := Lib.hid hw1
      clear hl hbu1 hw1 hbu hb
      go_wp2_with fail
      refine (bldWrite (w.heap.size + 1 + 1) (w.heap.size + 1 + 1) _ _ _ HB.out (by rw [Lib.byteCells_length, ByteArray.size_append, show (⟨#[10]⟩ : ByteArray).size = 1 from rfl]; omega) (by omega)).mono ?_
      rintro e w2 ⟨rfl, h5, h6⟩
      go_wp2_with fail
      go_roundw
      case rel => (first | exact ⟨5, by omega, rfl, .inr (by rw [← HL.out.1]; exact h5), HL.out.2, HW.out.trans (h6.mono (by omega)), by have := h6.size; omega⟩ | ((repeat apply Exists.intro); refine ⟨⟨5, by omega, rfl, .inr (by rw [← HL.out.1]; exact h5), HL.out.2, HW.out.trans (h6.mono (by omega)), by have := h6.size; omega⟩, ?_⟩; (repeat refine ⟨rfl, ?_⟩); exact rfl))
      case measure => simp [intOf]
    · have ix := idx7_5
      go_wp2_with fail
      refine (before_ a A c _ HG.out HT'.out h3').mono ?_
      rintro e w1 ⟨t, rfl, h1, h2, h4⟩
      have hbu1 := bld_below hbu.out h4
      have hl := text_line (a := a) (k := 5) rfl h1 h2 hlen
      have hz := h4.size
      have hw1 := hb.trans (h4.mono hb.size)
      clear h4
      have HL := Lib.hid hl
      have HB := Lib.hid hbu1
      have HW := Lib.hid hw1
      clear hl hbu1 hw1 hbu hb
      go_wp2_with fail
      refine (bldWrite (w.heap.size + 1 + 1) (w.heap.size + 1 + 1) _ _ _ HB.out (by rw [Lib.byteCells_length, ByteArray.size_append, show (⟨#[10]⟩ : ByteArray).size = 1 from rfl]; omega) (by omega)).mono ?_
      rintro e w2 ⟨rfl, h5, h6⟩
      go_wp2_with fail
      go_roundw
      case rel => (first | exact ⟨6, by omega, rfl, .inr (by rw [← HL.out.1]; exact h5), HL.out.2, HW.out.trans (h6.mono (by omega)), by have := h6.size; omega⟩ | ((repeat apply Exists.intro); refine ⟨⟨6, by omega, rfl, .inr (by rw [← HL.out.1]; exact h5), HL.out.2, HW.out.trans (h6.mono (by omega)), by have := h6.size; omega⟩, ?_⟩; (repeat refine ⟨rfl, ?_⟩); exact rfl))
      case measure => simp [intOf]
    · have ix := idx7_6
      go_wp2_with fail
      refine (end_ a A c _).mono ?_
      rintro e w1 ⟨t, rfl, h1, h2, h4⟩
      have hbu1 := bld_below hbu.out h4
      have hl := text_line (a := a) (k := 6) rfl h1 h2 hlen
      have hz := h4.size
      have hw1 := hb.trans (h4.mono hb.size)
      clear h4
      have HL := Lib.hid hl
      have HB := Lib.hid hbu1
      have HW := Lib.hid hw1
      clear hl hbu1 hw1 hbu hb
      go_wp2_with fail
      refine (bldWrite (w.heap.size + 1 + 1) (w.heap.size + 1 + 1) _ _ _ HB.out (by rw [Lib.byteCells_length, ByteArray.size_append, show (⟨#[10]⟩ : ByteArray).size = 1 from rfl]; omega) (by omega)).mono ?_
      rintro e w2 ⟨rfl, h5, h6⟩
      go_wp2_with fail
      go_roundw
      case rel => (first | exact ⟨7, by omega, rfl, .inr (by rw [← HL.out.1]; exact h5), HL.out.2, HW.out.trans (h6.mono (by omega)), by have := h6.size; omega⟩ | ((repeat apply Exists.intro); refine ⟨⟨7, by omega, rfl, .inr (by rw [← HL.out.1]; exact h5), HL.out.2, HW.out.trans (h6.mono (by omega)), by have := h6.size; omega⟩, ?_⟩; (repeat refine ⟨rfl, ?_⟩); exact rfl))
      case measure => simp [intOf]
    · have HF : Hid (linesTo a 7 = textL a) := rfl
      have HB := Lib.hid hbu.out
      clear hbu
      go_wp2_with (go_at_call 97; refine (Tryz.Builder_String_any (w.heap.size + 1 + 1) (w.heap.size + 1 + 1) _ _ HB.out (by omega)).mono ?_; rintro e w2 ⟨rfl, h6⟩)
      go_ret
      exact ⟨ret_str (by rw [HF.out]), hb.trans (h6.mono (by omega))⟩
end Go.Proofs.YtmpbhngjkbidcaaGreatDoor

/-
  The walk of the specification's 'text'.
-/
namespace Go.Proofs.YtmpbhngjkbidcaaGreatDoor
open Go.RowKit Al

def CutRel (a : Alr) (W : World) (s : Value) (wx : World) : Prop := ∃ (t : ByteArray) (n : Nat), s = .string t ∧ Hid (t.data.toList = preL a) ∧ t.size ≤ 8192 ∧ wx = W.drewN n
def RtRel (a : Alr) (word : List UInt8) (s i : Value) : Prop := ∃ (k : Nat) (t : ByteArray), k ≤ a.cells.length ∧ s = .string t ∧ i = .int .i64 k ∧ t.size ≤ 8201 + 11 * k ∧ Hid (t.data.toList = preL a ++ rowL word (a.cells.take k))

theorem rt_next {a : Alr} {word : List UInt8} {k : Nat} {r : ByteArray} (h : k < a.cells.length) (hr : Hid (r.data.toList = preL a ++ rowL word (a.cells.take k))) :
    Hid ((r ++ (⟨#[32]⟩ : ByteArray) ++ ⟨(Lib.itoa a.cells[k]).toArray⟩).data.toList = preL a ++ rowL word (a.cells.take (k + 1))) := by
  show _ = _
  rw [str_add, str_add, hr.out, take_snoc h, rowL_snoc]
  simp
theorem rt_size {r : ByteArray} {k : Nat} {l : List UInt8} (h : r.size ≤ 8201 + 11 * k) (hl : l.length ≤ 10) : (r ++ (⟨#[32]⟩ : ByteArray) ++ ⟨l.toArray⟩).size ≤ 8201 + 11 * (k + 1) := by
  have e : (⟨l.toArray⟩ : ByteArray).size = l.length := by simp [ByteArray.size_mk']
  rw [ByteArray.size_append, ByteArray.size_append, show (⟨#[32]⟩ : ByteArray).size = 1 from rfl, e]
  omega
theorem rt_end {a : Alr} {word : List UInt8} {r : ByteArray} (hw : whereL a = rowL word a.cells) (hr : Hid (r.data.toList = preL a ++ rowL word (a.cells.take a.cells.length))) :
    (r ++ (⟨#[10, 98, 101, 102, 111, 114, 101, 32]⟩ : ByteArray) ++ ⟨(Lib.itoa a.before).toArray⟩ ++ (⟨#[10, 101, 110, 100, 10]⟩ : ByteArray)).data.toList = textL a := by
  rw [str_add, str_add, str_add, hr.out, List.take_of_length_le (Nat.le_refl _), textL_pre, hw]
  simp
end Go.Proofs.YtmpbhngjkbidcaaGreatDoor

/-
  The walks of the two functions that reckon the digest.
-/
namespace Go.Proofs.YtmpbhngjkbidcaaGreatDoor
open Go.RowKit Al

theorem conv_below (w : World) (e : TypeId) (s : ByteArray) : Below w.heap.size w (Lib.bytesWorld w e s) :=
  ⟨rfl, rfl, rfl, by rw [Lib.bytesWorld_size]; omega, fun k hk => Lib.bytesWorld_at_old w e s k hk⟩
theorem dig_next {l : List UInt8} {k : Nat} (h : k < l.length) : digL (l.take (k + 1)) = (digL (l.take k) * 31 + (l[k].toNat : Int) + 1) % 2147483647 := by
  rw [List.take_succ_eq_append_getElem h, digL_snoc]
/-- []byte(s): what is known of it. -/
theorem conv_ (w : World) (l : List UInt8) : ∃ (cp : Nat) (w' : World), (convert 9 167 (.string ⟨l.toArray⟩)).run Tryz.prog w = .ok (.slice (some ⟨w.heap.size, 0, none⟩) l.length cp) w' ∧ Below w.heap.size w w' ∧
    ∀ j (hj : j < l.length), w'.cell? ⟨w.heap.size, j, none⟩ = some (.int .u8 (l[j].toNat : Int)) := by
  have hsz : (⟨l.toArray⟩ : ByteArray).size = l.length := by simp [ByteArray.size_mk']
  have h := Lib.run_convert_string_bytes (P := Tryz.prog) w 9 167 5 (⟨l.toArray⟩ : ByteArray) Tryz.underlying9 Tryz.underlying167 Tryz.underlying5
  refine ⟨_, _, by rw [h, hsz], conv_below _ _ _, fun j hj => ?_⟩
  rw [Lib.bytesWorld_cell w _ _ j (by rw [hsz]; exact hj)]
  simp [List.getD, hj]

def DgRel (l : List UInt8) (n i : Value) : Prop := ∃ k : Nat, k ≤ l.length ∧ n = .int .i64 (digL (l.take k)) ∧ i = .int .i64 k

set_option maxRecDepth 100000 in
theorem digest_ (a : Alr) (A : Option Addr) (c B : Nat) (w : World) (hg : AlGood a) (h : Sl w B 1 A a.cells.length c (ints a.cells)) (hB : B ≤ w.heap.size) (ht : Tab w) (h3 : 8 ≤ w.heap.size) :
    Calls Tryz.prog 50 #[a.val A c] w fun e w' => e = .returned (.int .i64 (digA a)) ∧ Below w.heap.size w w' := by
  have hlen := Lib.hid (textL_len hg)
  have HG := Lib.hid hg
  have HT := Lib.hid ht
  have HS := Lib.hid h
  clear hg ht h
  go_enter Tryz.func50, Tryz.ntmps50
  go_wp2_with fail
  refine (text_ a A c B _ HG.out (HS.out.alloc hB _) (by simp; omega) (HT.out.below (B := w.heap.size) (by omega) (by repeat (first | exact Below.refl _ _ | assumption | refine below_drewN ?_ _ | refine Below.drew ?_ | refine Below.setCell ?_ (by first | omega | (simp; done) | (simp; omega)) _ | refine Below.alloc ?_ (by first | omega | (simp; done) | (simp; omega)) _))) (by simp; omega)).mono ?_
  rintro e w1 ⟨rfl, hb⟩
  have hz := hb.size
  simp at hz
  have hw1 : Below w.heap.size w w1 := (show Below w.heap.size w _ from (by repeat (first | exact Below.refl _ _ | assumption | refine below_drewN ?_ _ | refine Below.drew ?_ | refine Below.setCell ?_ (by first | omega | (simp; done) | (simp; omega)) _ | refine Below.alloc ?_ (by first | omega | (simp; done) | (simp; omega)) _))).trans (hb.mono (by simp))
  clear hb
  obtain ⟨cp, w2, hcv, hb2, hcell⟩ := conv_ w1 (textL a)
  have HC := Lib.hid hcv
  have HB := Lib.hid (hw1.trans (hb2.mono hw1.size))
  have HL := Lib.hid hcell
  clear hcv hb2 hcell hw1
  have hlen' : (textL a).length ≤ 1048576 := hlen.out
  have HD : Hid (digA a = digL (textL a)) := rfl
  go_wp2_with fail
  rw [HC.out]
  simp only [Result.andThen]
  rw [Oper.upon_value]
  clear HC HG HT HS hlen
  generalize textL a = l at *
  go_wp2_with fail
  go_loop [3, 10] (fun n i => DgRel l n i) (fun _ i => l.length - (intOf i).toNat)
  case atStart => exact ⟨0, Nat.zero_le _, rfl, rfl⟩
  case round =>
    obtain ⟨k, hk, rfl, rfl⟩ := hrel
    obtain ⟨d1, d2⟩ := digL_in (l.take k)
    by_cases hlt : k < l.length
    · have hc := HL.out k hlt
      have hlt' : (k : Int) < (l.length : Int) := by omega
      have hu := l[k].toNat_lt
      have HN := Lib.hid (dig_next hlt)
      go_wp2_with fail
      go_round
      case rel => (first | exact ⟨k + 1, by omega, by rw [HN.out], by go_num⟩ | ((repeat apply Exists.intro); refine ⟨⟨k + 1, by omega, by rw [HN.out], by go_num⟩, ?_⟩; (repeat refine ⟨rfl, ?_⟩); exact rfl))
      case measure => simp [intOf]; omega
    · obtain rfl : k = l.length := by omega
      go_wp2_with fail
      go_ret
      exact ⟨ret_int (by rw [HD.out]), HB.out⟩

end Go.Proofs.YtmpbhngjkbidcaaGreatDoor

/-
  The walk of the specification's function that asks whether an alert is valid.
-/
namespace Go.Proofs.YtmpbhngjkbidcaaGreatDoor
open Go.RowKit Al

def CkRel (a : Alr) (s i : Value) : Prop := ∃ (k : Nat) (b : Bool), k ≤ a.cells.length ∧ s = .bool b ∧ i = .int .i64 k ∧ Hid ((b && rising (prevOf a.cells k) (manyCells a.grid) (a.cells.drop k)) = okA a) ∧
  Hid (b = true → pre2 a = true ∧ (0 < k → 0 ≤ prevOf a.cells k))

end Go.Proofs.YtmpbhngjkbidcaaGreatDoor

/-
  The walks of the two functions that calculate powers.
-/
namespace Go.Proofs.YtmpbhngjkbidcaaGreatDoor
open Go.RowKit Al

theorem power_ (n e m : Int) (hn : 0 ≤ n) (he : 0 ≤ e) (he2 : e ≤ 1073741824) (hm1 : 1 ≤ m) (hm2 : m ≤ 1073741824) (w : World) :
    Calls Tryz.prog 84 #[.int .i64 n, .int .i64 e, .int .i64 m] w fun e' w' => e' = .returned (.int .i64 (pw n e m)) ∧ Below w.heap.size w w' := by
  obtain ⟨n, rfl⟩ := Int.eq_ofNat_of_zero_le hn
  obtain ⟨e, rfl⟩ := Int.eq_ofNat_of_zero_le he
  obtain ⟨m, rfl⟩ := Int.eq_ofNat_of_zero_le (a := m) (by omega)
  have hm0 : ((m : Int) == 0) = false := by simp; omega
  have hmp : 0 < m := by omega
  clear hn he
  go_enter Tryz.func84, Tryz.ntmps84
  go_wp2
  go_quiet (fail)
  go_wp2
  go_loop [1, 8, 9] (fun k o a => ∃ s j x : Nat, k = .int .i64 j ∧ o = .int .i64 x ∧ a = .int .i64 s ∧ s < m ∧ x < m ∧ j ≤ e ∧ Hid (x * s ^ j % m = n ^ e % m)) (fun k _ _ => (intOf k).toNat)
  case atStart => exact ⟨n % m, e, 1 % m, rfl, by go_num, by go_num, Nat.mod_lt _ hmp, Nat.mod_lt _ hmp, Nat.le_refl _, pw_start n e m⟩
  case round =>
    obtain ⟨s, j, x, rfl, rfl, rfl, hs, hx, hje, hp⟩ := hrel
    have b1 := mulI_bd hx hs (by omega)
    have b2 := mulI_bd hs hs (by omega)
    have b3 := mulI_nn x s
    have b4 := mulI_nn s s
    have ls := Nat.mod_lt (s * s) hmp
    have lx := Nat.mod_lt (x * s) hmp
    by_cases hj : 0 < j
    · have hj1 : (0 : Int) < (j : Int) := by omega
      by_cases ho : j % 2 = 1
      · have ho' : ((j : Int) % 2 == 1) = true := by simp; omega
        go_wp2
        go_round
        case rel => exact ⟨s * s % m, j / 2, x * s % m, by go_num, by go_num, by go_num, ls, lx, by omega, by show _ = _; rw [← hp.out, pw_odd ho]⟩
        case measure => simp [intOf]; omega
      · have ho' : ((j : Int) % 2 == 1) = false := by simp; omega
        go_wp2
        go_round
        case rel => exact ⟨s * s % m, j / 2, x, by go_num, rfl, by go_num, ls, hx, by omega, by show _ = _; rw [← hp.out, pw_even (by omega)]⟩
        case measure => simp [intOf]; omega
    · obtain rfl : j = 0 := by omega
      go_wp2
      go_ret
      exact ⟨ret_int (by rw [pw_nat, ← hp.out, Nat.pow_zero, Nat.mul_one, Nat.mod_eq_of_lt hx]), below_drewN ((Below.refl _ _).alloc (Nat.le_refl _) _) _⟩
end Go.Proofs.YtmpbhngjkbidcaaGreatDoor

/-
  The walks of Digest, Sign, Signed and their helpers.
-/
namespace Go.Proofs.YtmpbhngjkbidcaaGreatDoor
open Go.RowKit Al

/-- An alert that lies in the world: its cells are a slice in memory. -/
structure AIn (w : World) (a : Alr) (A : Option Addr) (c : Nat) : Prop where
  ev : a.ev.size ≤ maxLen
  sl : Sl w w.heap.size 1 A a.cells.length c (ints a.cells)
theorem AIn.below {w w' : World} {a : Alr} {A : Option Addr} {c : Nat} (h : AIn w a A c) (hb : Below w.heap.size w w') : AIn w' a A c :=
  ⟨h.ev, (h.sl.below hb).more hb.size⟩
/-- The world is ready for a text: the library's table lies in it. -/
structure Rdy (w : World) : Prop where
  tab : Tab w
  big : 8 ≤ w.heap.size
theorem Rdy.below {w w' : World} (h : Rdy w) (hb : Below w.heap.size w w') : Rdy w' := ⟨h.tab.below (by have := h.big; omega) hb, Nat.le_trans h.big hb.size⟩

theorem validA (a : Alr) (A : Option Addr) (c : Nat) (w : World) (h : AIn w a A c) :
    Calls Tryz.prog 52 #[a.val A c] w fun e w' => e = .returned (.bool (okA a)) ∧ Below w.heap.size w w' :=
  valid_ a A c _ w h.ev h.sl (Nat.le_refl _)
theorem digestA (a : Alr) (A : Option Addr) (c : Nat) (w : World) (hk : okA a = true) (h : AIn w a A c) (hr : Rdy w) :
    Calls Tryz.prog 50 #[a.val A c] w fun e w' => e = .returned (.int .i64 (digA a)) ∧ Below w.heap.size w w' :=
  digest_ a A c _ w (okA_good hk) h.sl (Nat.le_refl _) hr.tab hr.big
/-- What Digest gives. -/
def digE (a : Alr) : Int := if okA a then digA a else 0
theorem digE_t {a : Alr} (h : okA a = true) : digE a = digA a := by unfold digE; rw [h]; rfl
theorem digE_f {a : Alr} (h : okA a = false) : digE a = 0 := by unfold digE; rw [h]; rfl
theorem errA_t {b : Bool} {c : Int} (h : b = true) : errA b c = 0 := by rw [h]; rfl
theorem errA_f {b : Bool} {c : Int} (h : b = false) : errA b c = c := by rw [h]; rfl
theorem ret2 {j k : IntKind} {a b c d : Int} (h : a = c) (h' : b = d) : Ending.returned (.tuple #[.int j a, .int k b]) = .returned (.tuple #[.int j c, .int k d]) := by rw [h, h']
theorem retb2 {k : IntKind} {a c : Bool} {b d : Int} (h : a = c) (h' : b = d) : Ending.returned (.tuple #[.bool a, .int k b]) = .returned (.tuple #[.bool c, .int k d]) := by rw [h, h']

set_option maxRecDepth 100000 in
theorem Digest_ (a : Alr) (A : Option Addr) (c : Nat) (w : World) (h : AIn w a A c) (hr : Rdy w) :
    Calls Tryz.prog 83 #[a.val A c] w fun e w' => e = .returned (.tuple #[.int .i64 (digE a), .int .i64 (errA (okA a) 101)]) ∧ Below w.heap.size w w' := by
  have HA := Lib.hid h
  have HR := Lib.hid hr
  clear h hr
  go_enter Tryz.func83, Tryz.ntmps83
  go_wp2_with fail
  refine (validA a A c _ (HA.out.below (by repeat (first | exact Below.refl _ _ | assumption | refine below_drewN ?_ _ | refine Below.drew ?_ | refine Below.setCell ?_ (by first | omega | (simp; done) | (simp; omega)) _ | refine Below.alloc ?_ (by first | omega | (simp; done) | (simp; omega)) _)))).mono ?_
  rintro e w1 ⟨rfl, hb⟩
  obtain ⟨hc, hf⟩ := bcell hb
  have HB := Lib.hid ((show Below w.heap.size w _ from (by repeat (first | exact Below.refl _ _ | assumption | refine below_drewN ?_ _ | refine Below.drew ?_ | refine Below.setCell ?_ (by first | omega | (simp; done) | (simp; omega)) _ | refine Below.alloc ?_ (by first | omega | (simp; done) | (simp; omega)) _))).trans (hb.mono (by simp)))
  have hz := hb.size
  simp at hz
  clear hb
  by_cases hk : okA a = true
  · have HK := Lib.hid hk
    go_wp2_with fail
    refine (digestA a A c _ HK.out (HA.out.below HB.out) (HR.out.below HB.out)).mono ?_
    rintro e w2 ⟨rfl, hb2⟩
    have HB2 := Lib.hid (HB.out.trans (hb2.mono HB.out.size))
    clear hb2 hc hf
    go_wp2_with fail
    go_ret2
    exact ⟨ret2 (digE_t HK.out).symm (errA_t HK.out).symm, HB2.out⟩
  · have hk' : okA a = false := by simpa using hk
    have HK := Lib.hid hk'
    clear hk
    go_wp2_with fail
    go_ret2
    exact ⟨ret2 (digE_f HK.out).symm (errA_f HK.out).symm, HB.out⟩
end Go.Proofs.YtmpbhngjkbidcaaGreatDoor

/-
  The walks of Sign and Signed, and those of the specification.
-/
namespace Go.Proofs.YtmpbhngjkbidcaaGreatDoor
open Go.RowKit Al

theorem plausible_is (m x : Int) (b : Bool) (h : plaus m x = b) (w : World) :
    Calls Tryz.prog 82 #[.agg #[.int .i64 m, .int .i64 x]] w fun e' w' => e' = .returned (.bool b) ∧ Below w.heap.size w w' := h ▸ plausible_ m x w
theorem validA_is (a : Alr) (A : Option Addr) (c : Nat) (w : World) (b : Bool) (hk : okA a = b) (h : AIn w a A c) :
    Calls Tryz.prog 52 #[a.val A c] w fun e w' => e = .returned (.bool b) ∧ Below w.heap.size w w' := hk ▸ validA a A c w h
theorem Digest_t (a : Alr) (A : Option Addr) (c : Nat) (w : World) (hk : okA a = true) (h : AIn w a A c) (hr : Rdy w) :
    Calls Tryz.prog 83 #[a.val A c] w fun e w' => e = .returned (.tuple #[.int .i64 (digA a), .int .i64 0]) ∧ Below w.heap.size w w' := by
  have := Digest_ a A c w h hr
  rw [digE_t hk, errA_t hk] at this
  exact this
theorem Digest_f (a : Alr) (A : Option Addr) (c : Nat) (w : World) (hk : okA a = false) (h : AIn w a A c) (hr : Rdy w) :
    Calls Tryz.prog 83 #[a.val A c] w fun e w' => e = .returned (.tuple #[.int .i64 0, .int .i64 101]) ∧ Below w.heap.size w w' := by
  have := Digest_ a A c w h hr
  rw [digE_f hk, errA_f hk] at this
  exact this

/-- What Sign gives: the number, and the error. -/
def signE (m x s : Int) (a : Alr) : Int × Int := if plaus m x && inB s 1 1073741824 then (if okA a then (pw (digA a) s m, 0) else (0, 101)) else (0, 100)
theorem signE_no {m x s : Int} {a : Alr} (h : plaus m x = false ∨ inB s 1 1073741824 = false) : signE m x s a = (0, 100) := by
  unfold signE
  rw [if_neg]
  intro hh
  rw [Bool.and_eq_true] at hh
  rcases h with h | h
  · rw [h] at hh; cases hh.1
  · rw [h] at hh; cases hh.2
theorem signE_bad {m x s : Int} {a : Alr} (h1 : plaus m x = true) (h2 : inB s 1 1073741824 = true) (h : okA a = false) : signE m x s a = (0, 101) := by
  unfold signE; rw [h1, h2, h]; rfl
theorem signE_ok {m x s : Int} {a : Alr} (h1 : plaus m x = true) (h2 : inB s 1 1073741824 = true) (h : okA a = true) : signE m x s a = (pw (digA a) s m, 0) := by
  unfold signE; rw [h1, h2, h]; rfl
def SignRet (p : Int × Int) (w : World) (e : Ending) (w' : World) : Prop := e = .returned (.tuple #[.int .i64 p.1, .int .i64 p.2]) ∧ Below w.heap.size w w'

set_option maxRecDepth 100000 in
set_option maxHeartbeats 1000000 in
theorem Sign_ (m x s : Int) (a : Alr) (A : Option Addr) (c : Nat) (w : World) (h : AIn w a A c) (hr : Rdy w) :
    Calls Tryz.prog 48 #[.agg #[.int .i64 m, .int .i64 x], .int .i64 s, a.val A c] w (SignRet (signE m x s a) w) := by
  have HA := Lib.hid h
  have HR := Lib.hid hr
  clear h hr
  by_cases h1 : plaus m x = true
  · have H1 := Lib.hid h1
    have b1 := plaus_true.1 h1
    by_cases h2 : inB s 1 1073741824 = true
    · have H2 := Lib.hid h2
      have b2 := inB_true.1 h2
      by_cases hk : okA a = true
      · have HK := Lib.hid hk
        have HD := Lib.hid (digL_in (textL a))
        clear h1 h2 hk
        go_enter Tryz.func48, Tryz.ntmps48
        go_wp2_with fail
        refine (plausible_is _ _ _ H1.out _).mono ?_
        rintro e w1 ⟨rfl, hb⟩
        obtain ⟨hcw1, hfw1⟩ := bcell hb
        have Hw1 := Lib.hid ((show Below w.heap.size w _ from (by repeat (first | exact Below.refl _ _ | assumption | refine below_drewN ?_ _ | refine Below.drew ?_ | refine Below.setCell ?_ (by first | omega | (simp; done) | (simp; omega)) _ | refine Below.alloc ?_ (by first | omega | (simp; done) | (simp; omega)) _))).trans (hb.mono (by first | omega | (simp; done) | (simp; omega))))
        have hzw1 := hb.size
        try simp at hzw1
        clear hb
        go_wp2_with (go_at_call 71; refine (within_is _ _ _ _ H2.out _).mono ?_; rintro e w' ⟨rfl, rfl⟩)
        refine (Digest_t a A c _ HK.out (HA.out.below Hw1.out) (HR.out.below Hw1.out)).mono ?_
        rintro e w2 ⟨rfl, hb⟩
        obtain ⟨hcw2, hfw2⟩ := bcell hb
        have Hw2 := Lib.hid ((show Below w.heap.size w _ from (by repeat (first | exact Below.refl _ _ | exact (Hw1).out | refine below_drewN ?_ _ | refine Below.drew ?_ | refine Below.setCell ?_ (by first | omega | (simp; done) | (simp; omega)) _ | refine Below.alloc ?_ (by first | omega | (simp; done) | (simp; omega)) _))).trans (hb.mono (by first | omega | (simp; done) | (simp; omega))))
        have hzw2 := hb.size
        try simp at hzw2
        clear hb
        have hz3 : w.heap.size < w1.heap.size := by omega
        go_wp2_with fail
        refine (power_ _ _ _ HD.out.1 (by omega) (by omega) (by omega) (by omega) _).mono ?_
        rintro e w3 ⟨rfl, hb⟩
        obtain ⟨hcw3, hfw3⟩ := bcell hb
        have Hw3 := Lib.hid ((show Below w.heap.size w _ from (by repeat (first | exact Below.refl _ _ | exact (Hw2).out | refine below_drewN ?_ _ | refine Below.drew ?_ | refine Below.setCell ?_ (by first | omega | (simp; done) | (simp; omega)) _ | refine Below.alloc ?_ (by first | omega | (simp; done) | (simp; omega)) _))).trans (hb.mono (by first | omega | (simp; done) | (simp; omega))))
        have hzw3 := hb.size
        try simp at hzw3
        clear hb
        go_wp2_with fail
        go_ret2
        exact ⟨by rw [signE_ok H1.out H2.out HK.out]; rfl, Hw3.out⟩
      · have hk' : okA a = false := by simpa using hk
        have HK := Lib.hid hk'
        clear h1 h2 hk hk'
        go_enter Tryz.func48, Tryz.ntmps48
        go_wp2_with fail
        refine (plausible_is _ _ _ H1.out _).mono ?_
        rintro e w1 ⟨rfl, hb⟩
        obtain ⟨hcw1, hfw1⟩ := bcell hb
        have Hw1 := Lib.hid ((show Below w.heap.size w _ from (by repeat (first | exact Below.refl _ _ | assumption | refine below_drewN ?_ _ | refine Below.drew ?_ | refine Below.setCell ?_ (by first | omega | (simp; done) | (simp; omega)) _ | refine Below.alloc ?_ (by first | omega | (simp; done) | (simp; omega)) _))).trans (hb.mono (by first | omega | (simp; done) | (simp; omega))))
        have hzw1 := hb.size
        try simp at hzw1
        clear hb
        go_wp2_with (go_at_call 71; refine (within_is _ _ _ _ H2.out _).mono ?_; rintro e w' ⟨rfl, rfl⟩)
        refine (Digest_f a A c _ HK.out (HA.out.below Hw1.out) (HR.out.below Hw1.out)).mono ?_
        rintro e w2 ⟨rfl, hb⟩
        obtain ⟨hcw2, hfw2⟩ := bcell hb
        have Hw2 := Lib.hid ((show Below w.heap.size w _ from (by repeat (first | exact Below.refl _ _ | exact (Hw1).out | refine below_drewN ?_ _ | refine Below.drew ?_ | refine Below.setCell ?_ (by first | omega | (simp; done) | (simp; omega)) _ | refine Below.alloc ?_ (by first | omega | (simp; done) | (simp; omega)) _))).trans (hb.mono (by first | omega | (simp; done) | (simp; omega))))
        have hzw2 := hb.size
        try simp at hzw2
        clear hb
        go_wp2_with fail
        go_ret2
        exact ⟨by rw [signE_bad H1.out H2.out HK.out]; rfl, Hw2.out⟩
    · have h2' : inB s 1 1073741824 = false := by simpa using h2
      have H2 := Lib.hid h2'
      clear h1 h2 h2'
      go_enter Tryz.func48, Tryz.ntmps48
      go_wp2_with fail
      refine (plausible_is _ _ _ H1.out _).mono ?_
      rintro e w1 ⟨rfl, hb⟩
      obtain ⟨hcw1, hfw1⟩ := bcell hb
      have Hw1 := Lib.hid ((show Below w.heap.size w _ from (by repeat (first | exact Below.refl _ _ | assumption | refine below_drewN ?_ _ | refine Below.drew ?_ | refine Below.setCell ?_ (by first | omega | (simp; done) | (simp; omega)) _ | refine Below.alloc ?_ (by first | omega | (simp; done) | (simp; omega)) _))).trans (hb.mono (by first | omega | (simp; done) | (simp; omega))))
      have hzw1 := hb.size
      try simp at hzw1
      clear hb
      go_wp2_with (go_at_call 71; refine (within_is _ _ _ _ H2.out _).mono ?_; rintro e w' ⟨rfl, rfl⟩)
      go_ret2
      exact ⟨by rw [signE_no (.inr H2.out)]; rfl, Hw1.out⟩
  · have h1' : plaus m x = false := by simpa using h1
    have H1 := Lib.hid h1'
    clear h1 h1'
    go_enter Tryz.func48, Tryz.ntmps48
    go_wp2_with fail
    refine (plausible_is _ _ _ H1.out _).mono ?_
    rintro e w1 ⟨rfl, hb⟩
    obtain ⟨hcw1, hfw1⟩ := bcell hb
    have Hw1 := Lib.hid ((show Below w.heap.size w _ from (by repeat (first | exact Below.refl _ _ | assumption | refine below_drewN ?_ _ | refine Below.drew ?_ | refine Below.setCell ?_ (by first | omega | (simp; done) | (simp; omega)) _ | refine Below.alloc ?_ (by first | omega | (simp; done) | (simp; omega)) _))).trans (hb.mono (by first | omega | (simp; done) | (simp; omega))))
    have hzw1 := hb.size
    try simp at hzw1
    clear hb
    go_wp2_with fail
    go_ret2
    exact ⟨by rw [signE_no (.inl H1.out)]; rfl, Hw1.out⟩
end Go.Proofs.YtmpbhngjkbidcaaGreatDoor

/-
  The walks of the specification's Sign and Signed.
-/
namespace Go.Proofs.YtmpbhngjkbidcaaGreatDoor
open Go.RowKit Al

end Go.Proofs.YtmpbhngjkbidcaaGreatDoor
