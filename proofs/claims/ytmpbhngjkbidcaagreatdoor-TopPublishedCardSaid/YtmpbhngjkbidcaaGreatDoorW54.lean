/-
  The frame of the laws that parse: what their rows list (three tables of numbers, the table of utf8, two errors of strconv, a pinned table), and what follows from a world's shape.
-/
import Derived.Test.YtmpbhngjkbidcaaGreatDoorW32
import Derived.Test.YtmpbhngjkbidcaaGreatDoorW41
import Derived.Shelf.Vars
namespace Go.Proofs.YtmpbhngjkbidcaaGreatDoor
open Go.ChangeShapes Go.WideShapes Go.ChangeAt Go.RowKit Al

/-- What the rows list. -/
def tabsP : List (String × DataW Unit) := [("math/bits.deBruijn32tab", Rows.laid_math_bits_deBruijn32tab), ("math/bits.deBruijn64tab", Rows.laid_math_bits_deBruijn64tab), ("internal/strconv.uint64pow10", Rows.laid_internal_strconv_uint64pow10), ("unicode/utf8.acceptRanges", Rows.laid_unicode_utf8_acceptRanges), ("strconv.ErrRange", Rows.laid_strconv_ErrRange), ("strconv.ErrSyntax", Rows.laid_strconv_ErrSyntax), ("unicode/utf8.first", Rows.laid_unicode_utf8_first)]
theorem tabPOf {W : World} (h : laidMetH Tryz.prog tabsP W) : Tab W :=
  Lib.tabIs_of_head (rest := [("unicode/utf8.acceptRanges", Rows.laid_unicode_utf8_acceptRanges), ("strconv.ErrRange", Rows.laid_strconv_ErrRange), ("strconv.ErrSyntax", Rows.laid_strconv_ErrSyntax), ("unicode/utf8.first", Rows.laid_unicode_utf8_first)]) gTab gTabType Tryz.underlying260 Tryz.underlying216 cU64 cTab (laidMet.tail (laidMet.tail h))
theorem rdyOfP {W : World} (h : laidMetH Tryz.prog tabsP W) : Rdy W := by
  have ht := tabPOf h
  refine ⟨ht, ?_⟩
  have h2 : Lib.TabIs Tryz.prog W "math/bits.deBruijn64tab" .u8 _ := Lib.tabIs_of_head (zs := z64) (rest := [("internal/strconv.uint64pow10", Rows.laid_internal_strconv_uint64pow10), ("unicode/utf8.acceptRanges", Rows.laid_unicode_utf8_acceptRanges), ("strconv.ErrRange", Rows.laid_strconv_ErrRange), ("strconv.ErrSyntax", Rows.laid_strconv_ErrSyntax), ("unicode/utf8.first", Rows.laid_unicode_utf8_first)]) g64 g64Type Tryz.underlying263 Tryz.underlying5 cU8 c64 (laidMet.tail h)
  have hc := Lib.TabIs.cell h2 g64 0 (by decide)
  unfold World.cell? at hc
  split at hc
  · rename_i hb
    have := (Array.getElem?_eq_some_iff.1 hb).1
    simp at this
    omega
  · cases hc
theorem gErrR : Tryz.prog.globalNamed "strconv.ErrRange" = some 1 := by kernel_rfl
theorem gErrRType : (Tryz.prog.globals[1]?).map (·.type) = some 135 := by kernel_rfl
theorem gErrS : Tryz.prog.globalNamed "strconv.ErrSyntax" = some 0 := by kernel_rfl
theorem gErrSType : (Tryz.prog.globals[0]?).map (·.type) = some 135 := by kernel_rfl
theorem cErrStr : Tryz.prog.cellsOf 238 = 1 := by kernel_rfl
theorem cStrT : Tryz.prog.cellsOf 9 = 1 := by kernel_rfl
theorem starErr : "*" ++ "errors.errorString" = "*errors.errorString" := by decide
theorem rowErr (u : TypeId) (h : Tryz.prog.typeName? 3 u = some "*errors.errorString") : u = 236 :=
  typeName_ptr_named (nm := "errors.errorString") (by rw [starErr]; kernel_rfl) (by kernel_rfl) (by decide) u (by rw [starErr]; exact h)
theorem rdyPOf {W : World} (h : laidMetH Tryz.prog tabsP W) (hsh : W.ShapedOpen Tryz.prog) : RdyP W := by
  refine ⟨rdyOfP h, cell_of_shapedOpen_int (zero := #[.int .i64 0]) hsh (of_decide_eq_true (by kernel_rfl)) (by kernel_rfl) rfl (by kernel_rfl) (by kernel_rfl) Tryz.underlying3, ?_, ?_⟩
  · obtain ⟨a, s, hv, _⟩ := laid_sentinel (r := [("unicode/utf8.first", Rows.laid_unicode_utf8_first)]) (laidMet.tail (laidMet.tail (laidMet.tail (laidMet.tail (laidMet.tail h))))) gErrS gErrSType Tryz.underlying135 rowErr Tryz.underlying236 Tryz.underlying238 rfl rfl Tryz.underlying9 cErrStr cStrT
    exact ⟨_, by simpa using World.var?_cell gErrS hv 0, .inr ⟨_, _, rfl⟩⟩
  · obtain ⟨a, s, hv, _⟩ := laid_sentinel (r := [("strconv.ErrSyntax", Rows.laid_strconv_ErrSyntax), ("unicode/utf8.first", Rows.laid_unicode_utf8_first)]) (laidMet.tail (laidMet.tail (laidMet.tail (laidMet.tail h)))) gErrR gErrRType Tryz.underlying135 rowErr Tryz.underlying236 Tryz.underlying238 rfl rfl Tryz.underlying9 cErrStr cStrT
    exact ⟨_, by simpa using World.var?_cell gErrR hv 0, .inr ⟨_, _, rfl⟩⟩

/-- The cells of a datum of numbers. -/
def flatD : DataW Unit → List Value
  | .agg l => l.filterMap fun
    | .lit (.int k n) => some (.int k n)
    | _ => none
  | _ => []
def flatD2 : DataW Unit → List Value
  | .agg l => l.flatMap flatD
  | _ => []
noncomputable def lowP : Nat := (World.holding Tryz.prog default ⟨#[], #[], []⟩).heap.size
/-- A world for the witnesses: the settled one, the variables as their initialisers lay them. -/
noncomputable def laidWorldP (os : Os) : World :=
  let w0 := World.holding Tryz.prog os ⟨#[.cells #[.string ⟨#[118, 97, 108, 117, 101, 32, 111, 117, 116, 32, 111, 102, 32, 114, 97, 110, 103, 101]⟩] 238, .cells #[.string ⟨#[105, 110, 118, 97, 108, 105, 100, 32, 115, 121, 110, 116, 97, 120]⟩] 238], #[], []⟩
  { w0 with heap := ((((((w0.heap.modify 6 (setTab (flatD Rows.laid_math_bits_deBruijn32tab).toArray)).modify 7 (setTab (flatD Rows.laid_math_bits_deBruijn64tab).toArray)).modify 5 (setTab (flatD Rows.laid_internal_strconv_uint64pow10).toArray)).modify 4 (setTab (flatD2 Rows.laid_unicode_utf8_acceptRanges).toArray)).modify 1 (setTab #[.iface 236 (.pointer (some ⟨lowP, 0, none⟩))])).modify 0 (setTab #[.iface 236 (.pointer (some ⟨lowP + 1, 0, none⟩))])).modify 3 (setTab (flatD Rows.laid_unicode_utf8_first).toArray) }
theorem laid_metP (os : Os) (args : Array Value) : laidMet Tryz.prog tabsP ((laidWorldP os).forCall (fun _ _ => 0) ⟨#[], args, []⟩).memory :=
  laidMet_of_run' 8 (by kernel_rfl) (by kernel_rfl)
end Go.Proofs.YtmpbhngjkbidcaaGreatDoor
