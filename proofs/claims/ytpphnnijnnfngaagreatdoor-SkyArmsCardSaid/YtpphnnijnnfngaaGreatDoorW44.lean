/-
  The listed table of the library is met by the row's own condition.
-/
import Derived.Test.YtpphnnijnnfngaaGreatDoorW26
import Derived.Test.YtpphnnijnnfngaaGreatDoorW36
namespace Go.Proofs.YtpphnnijnnfngaaGreatDoor
open Go.RowKit Go.ChangeShapes Go.WideShapes Go.ChangeAt Al

theorem gTabType : (Tryz.prog.globals[1]?).map (·.type) = some 228 := by kernel_rfl
theorem cTab : Tryz.prog.cellsOf 228 = 20 := by kernel_rfl
theorem cU64 : Tryz.prog.cellsOf 157 = 1 := by kernel_rfl
theorem tabOf {W : World} (h : laidMetH Tryz.prog tabs W) : Tab W :=
  Lib.tabIs_of_head (rest := []) gTab gTabType Tryz.underlying228 Tryz.underlying157 cU64 cTab (laidMet.tail (laidMet.tail h))
theorem rdnOf {W : World} (h : laidMetH Tryz.prog tabs W) (hsh : W.ShapedOpen Tryz.prog) : RdN W := ⟨mxlOf hsh, tabOf h⟩
end Go.Proofs.YtpphnnijnnfngaaGreatDoor
