/-
  How arguments of the sky's laws open.
-/
import Derived.Test.YtpphnnijnnfngaaGreatDoorW26
namespace Go.Proofs.YtpphnnijnnfngaaGreatDoor
open Go.ChangeShapes Go.WideShapes Go.ChangeAt Go.RowKit Al

theorem cIntS : Tryz.prog.cellsOf 3 = 1 := by kernel_rfl
theorem cArrS : Tryz.prog.cellsOf 30 = 3 := by kernel_rfl
theorem cPairS : Tryz.prog.cellsOf 142 = 2 := by kernel_rfl
theorem listS2 {l : List Value} (h : l.length = 2) : ∃ a b, l = [a, b] := by
  match l, h with
  | [a, b], _ => exact ⟨a, b, rfl⟩
theorem listS3 {l : List Value} (h : l.length = 3) : ∃ a b c, l = [a, b, c] := by
  match l, h with
  | [a, b, c], _ => exact ⟨a, b, c, rfl⟩
theorem okWide_arrS {P : Program} {w : World} {r : Reach} {base : Nat} {t e : TypeId} {n : Nat} {v : Value} (ht : P.underlying t = some (.array n e)) (h : Value.okWide P w r base t v) : ∃ cs, v = .agg cs := by
  simp only [Value.okWide, ht] at h
  obtain ⟨cs, h1, _⟩ := h
  exact ⟨cs, h1⟩
section
variable {H : Type} {enc : TypeId × Value → H} {w : World} {B : Nat} {cs : List Value}
set_option maxRecDepth 100000 in
theorem arr_openS (h : Rdg enc w B 30 cs) : ∃ p q x : Int, cs = [.int .i64 p, .int .i64 q, .int .i64 x] := by
  obtain ⟨hl, hf⟩ := h.array Tryz.underlying30
  rw [cArrS] at hl
  obtain ⟨a, b, c, rfl⟩ := listS3 hl
  have h0 := hf 0 (by decide)
  have h1 := hf 1 (by decide)
  have h2 := hf 2 (by decide)
  rw [cIntS] at h0 h1 h2
  obtain ⟨p, e0, _⟩ := h0.int Tryz.underlying3
  obtain ⟨q, e1, _⟩ := h1.int Tryz.underlying3
  obtain ⟨x, e2, _⟩ := h2.int Tryz.underlying3
  cases e0; cases e1; cases e2
  exact ⟨p, q, x, rfl⟩
set_option maxRecDepth 100000 in
theorem pair_openS (h : Rdg enc w B 142 cs) : ∃ p q : Int, cs = [.int .i64 p, .int .i64 q] := by
  obtain ⟨hl, hf⟩ := h.array Tryz.underlying142
  rw [cPairS] at hl
  obtain ⟨a, b, rfl⟩ := listS2 hl
  have h0 := hf 0 (by decide)
  have h1 := hf 1 (by decide)
  rw [cIntS] at h0 h1
  obtain ⟨p, e0, _⟩ := h0.int Tryz.underlying3
  obtain ⟨q, e1, _⟩ := h1.int Tryz.underlying3
  cases e0; cases e1
  exact ⟨p, q, rfl⟩
end
end Go.Proofs.YtpphnnijnnfngaaGreatDoor
