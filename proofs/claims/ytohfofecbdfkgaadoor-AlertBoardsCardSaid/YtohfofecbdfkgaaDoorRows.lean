/-
  NARROWER THAN 'FOR EVERY INPUT', by the rows' own cells (each row's printed sentence says how): AlertNotices: laid · AlertDrafts: laid · AlertKeys: laid · AlertSigned: laid · AlertChain: laid · AlertBoards: laid.
  DERIVED. THE GIVEN ROWS OF THIS SEAT. 6 by the template 'for every input the law returns true; each argument reads behind the call as it read before'; 0 by the template 'total and deterministic' (their statements: YtohfofecbdfkgaaDoorTotals.lean).
  GIVEN WITH THE SEED: the statements are not yours to turn. If you find one false, say at which input.
  Laid BY PROGRAM, IN A SANDBOX (cutbox-rows.mjs): the forced cells as the released guide's own fill.sh prints them over the translation 5e35ebb3f101f45f… (all of the seat's roots in one cut). By AI agents, Wed Nov 11 2026. No macro, syntax, notation, axiom, sorry.
-/
import Derived.Test.YtohfofecbdfkgaaDoorChecked
import GoSem.Claim
import GoSem.ClaimJoined
import GoSem.ClaimMapViews
import Derived.JoinedTies
import Derived.KernelRfl
namespace Go.Proofs.YtohfofecbdfkgaaDoor
/- THE CELL 'sum', in the pinned program and in every row, IS THE sha256 OF THE DUMP (.gsa) THAT YtohfofecbdfkgaaDoorProg.lean LOADS. Nothing in Lean hashes anything: it is a label: what it is worth is what the hold of that sum in a sandbox is worth. -/
noncomputable def Tryd.pinned : Pinned := { name := "ytohfofecbdfkgaadoor", sum := "5e35ebb3f101f45f31a7524944b1a6b47b229ff0fcaa6dc3f6516ff77454ebbc", checked := Tryd.checked }
namespace Rows
def none {H : Type} : Left H := { results := [], args := [] }

/- WHAT THE LISTED PACKAGE-LEVEL VARIABLES READ AS WHEN THE CALL BEGINS. Each datum BY PROGRAM (the guide's laid-datum.mjs) off the statement by which the dump's own 'gosem.cut.vars' lays the variable. In a bare row this is a premise. The card (YtohfofecbdfkgaaDoorCards.lean) ties it to the program's text. -/
def laid_math_bits_deBruijn32tab {H : Type} : DataW H := .agg [.lit (.int .u8 0), .lit (.int .u8 1), .lit (.int .u8 28), .lit (.int .u8 2), .lit (.int .u8 29), .lit (.int .u8 14), .lit (.int .u8 24), .lit (.int .u8 3), .lit (.int .u8 30), .lit (.int .u8 22), .lit (.int .u8 20), .lit (.int .u8 15), .lit (.int .u8 25), .lit (.int .u8 17), .lit (.int .u8 4), .lit (.int .u8 8), .lit (.int .u8 31), .lit (.int .u8 27), .lit (.int .u8 13), .lit (.int .u8 23), .lit (.int .u8 21), .lit (.int .u8 19), .lit (.int .u8 16), .lit (.int .u8 7), .lit (.int .u8 26), .lit (.int .u8 12), .lit (.int .u8 18), .lit (.int .u8 6), .lit (.int .u8 11), .lit (.int .u8 5), .lit (.int .u8 10), .lit (.int .u8 9)]
def laid_math_bits_deBruijn64tab {H : Type} : DataW H := .agg [.lit (.int .u8 0), .lit (.int .u8 1), .lit (.int .u8 56), .lit (.int .u8 2), .lit (.int .u8 57), .lit (.int .u8 49), .lit (.int .u8 28), .lit (.int .u8 3), .lit (.int .u8 61), .lit (.int .u8 58), .lit (.int .u8 42), .lit (.int .u8 50), .lit (.int .u8 38), .lit (.int .u8 29), .lit (.int .u8 17), .lit (.int .u8 4), .lit (.int .u8 62), .lit (.int .u8 47), .lit (.int .u8 59), .lit (.int .u8 36), .lit (.int .u8 45), .lit (.int .u8 43), .lit (.int .u8 51), .lit (.int .u8 22), .lit (.int .u8 53), .lit (.int .u8 39), .lit (.int .u8 33), .lit (.int .u8 30), .lit (.int .u8 24), .lit (.int .u8 18), .lit (.int .u8 12), .lit (.int .u8 5), .lit (.int .u8 63), .lit (.int .u8 55), .lit (.int .u8 48), .lit (.int .u8 27), .lit (.int .u8 60), .lit (.int .u8 41), .lit (.int .u8 37), .lit (.int .u8 16), .lit (.int .u8 46), .lit (.int .u8 35), .lit (.int .u8 44), .lit (.int .u8 21), .lit (.int .u8 52), .lit (.int .u8 32), .lit (.int .u8 23), .lit (.int .u8 11), .lit (.int .u8 54), .lit (.int .u8 26), .lit (.int .u8 40), .lit (.int .u8 15), .lit (.int .u8 34), .lit (.int .u8 20), .lit (.int .u8 31), .lit (.int .u8 10), .lit (.int .u8 25), .lit (.int .u8 14), .lit (.int .u8 19), .lit (.int .u8 9), .lit (.int .u8 13), .lit (.int .u8 8), .lit (.int .u8 7), .lit (.int .u8 6)]
def laid_internal_strconv_uint64pow10 {H : Type} : DataW H := .agg [.lit (.int .u64 1), .lit (.int .u64 10), .lit (.int .u64 100), .lit (.int .u64 1000), .lit (.int .u64 10000), .lit (.int .u64 100000), .lit (.int .u64 1000000), .lit (.int .u64 10000000), .lit (.int .u64 100000000), .lit (.int .u64 1000000000), .lit (.int .u64 10000000000), .lit (.int .u64 100000000000), .lit (.int .u64 1000000000000), .lit (.int .u64 10000000000000), .lit (.int .u64 100000000000000), .lit (.int .u64 1000000000000000), .lit (.int .u64 10000000000000000), .lit (.int .u64 100000000000000000), .lit (.int .u64 1000000000000000000), .lit (.int .u64 10000000000000000000)]

/-- 'ringdownlaw10.AlertNotices': WHATEVER THE INPUT: true; the input reads as it did. -/
def alertNoticesSpec : ChangeSpec := { name := "alertNotices", fn := fun _ => fun
  | [d1, d2] => { results := [.lit (.bool true)], args := [d1, d2] }
  | _ => none }
def alertNoticesRow : OpenClaim := { program := "ytohfofecbdfkgaadoor", sum := "5e35ebb3f101f45f31a7524944b1a6b47b229ff0fcaa6dc3f6516ff77454ebbc", func := "ringdown/ringdownlaw10.AlertNotices", spec := "alertNotices", inPlace := ["internal/abi.NoEscape"], unfollowed := true, recurses := true, named := ["internal/strconv.uint64pow10", "math/bits.deBruijn32tab", "math/bits.deBruijn64tab"], apart := false, laid := [("math/bits.deBruijn32tab", laid_math_bits_deBruijn32tab), ("math/bits.deBruijn64tab", laid_math_bits_deBruijn64tab), ("internal/strconv.uint64pow10", laid_internal_strconv_uint64pow10)] }
def AlertNoticesSaid : Prop := alertNoticesRow.holds Tryd.pinned (OpenSpec.ofChange alertNoticesSpec)

/-- ITS FALSE NEIGHBOUR: 'it returns false'. Refute it at one input. -/
def alertNoticesWrong : ChangeSpec := { name := "alertNotices", fn := fun _ => fun
  | [d1, d2] => { results := [.lit (.bool false)], args := [d1, d2] }
  | _ => none }
def AlertNoticesWrongFalsely : Prop := alertNoticesRow.holds Tryd.pinned (OpenSpec.ofChange alertNoticesWrong)

/-- 'ringdownlaw10.AlertDrafts': WHATEVER THE INPUT: true; the input reads as it did. -/
def alertDraftsSpec : ChangeSpec := { name := "alertDrafts", fn := fun _ => fun
  | [d1, d2] => { results := [.lit (.bool true)], args := [d1, d2] }
  | _ => none }
def alertDraftsRow : OpenClaim := { program := "ytohfofecbdfkgaadoor", sum := "5e35ebb3f101f45f31a7524944b1a6b47b229ff0fcaa6dc3f6516ff77454ebbc", func := "ringdown/ringdownlaw10.AlertDrafts", spec := "alertDrafts", inPlace := ["internal/abi.NoEscape"], unfollowed := true, recurses := true, named := ["internal/strconv.uint64pow10", "math/bits.deBruijn32tab", "math/bits.deBruijn64tab"], apart := false, laid := [("math/bits.deBruijn32tab", laid_math_bits_deBruijn32tab), ("math/bits.deBruijn64tab", laid_math_bits_deBruijn64tab), ("internal/strconv.uint64pow10", laid_internal_strconv_uint64pow10)] }
def AlertDraftsSaid : Prop := alertDraftsRow.holds Tryd.pinned (OpenSpec.ofChange alertDraftsSpec)

/-- ITS FALSE NEIGHBOUR: 'it returns false'. Refute it at one input. -/
def alertDraftsWrong : ChangeSpec := { name := "alertDrafts", fn := fun _ => fun
  | [d1, d2] => { results := [.lit (.bool false)], args := [d1, d2] }
  | _ => none }
def AlertDraftsWrongFalsely : Prop := alertDraftsRow.holds Tryd.pinned (OpenSpec.ofChange alertDraftsWrong)

/-- 'ringdownlaw10.AlertKeys': WHATEVER THE INPUT: true; the input reads as it did. -/
def alertKeysSpec : ChangeSpec := { name := "alertKeys", fn := fun _ => fun
  | [d1, d2, d3] => { results := [.lit (.bool true)], args := [d1, d2, d3] }
  | _ => none }
def alertKeysRow : OpenClaim := { program := "ytohfofecbdfkgaadoor", sum := "5e35ebb3f101f45f31a7524944b1a6b47b229ff0fcaa6dc3f6516ff77454ebbc", func := "ringdown/ringdownlaw10.AlertKeys", spec := "alertKeys", inPlace := ["internal/abi.NoEscape"], unfollowed := true, recurses := true, named := ["internal/strconv.uint64pow10", "math/bits.deBruijn32tab", "math/bits.deBruijn64tab"], apart := false, laid := [("math/bits.deBruijn32tab", laid_math_bits_deBruijn32tab), ("math/bits.deBruijn64tab", laid_math_bits_deBruijn64tab), ("internal/strconv.uint64pow10", laid_internal_strconv_uint64pow10)] }
def AlertKeysSaid : Prop := alertKeysRow.holds Tryd.pinned (OpenSpec.ofChange alertKeysSpec)

/-- ITS FALSE NEIGHBOUR: 'it returns false'. Refute it at one input. -/
def alertKeysWrong : ChangeSpec := { name := "alertKeys", fn := fun _ => fun
  | [d1, d2, d3] => { results := [.lit (.bool false)], args := [d1, d2, d3] }
  | _ => none }
def AlertKeysWrongFalsely : Prop := alertKeysRow.holds Tryd.pinned (OpenSpec.ofChange alertKeysWrong)

/-- 'ringdownlaw10.AlertSigned': WHATEVER THE INPUT: true; the input reads as it did. -/
def alertSignedSpec : ChangeSpec := { name := "alertSigned", fn := fun _ => fun
  | [d1, d2, d3] => { results := [.lit (.bool true)], args := [d1, d2, d3] }
  | _ => none }
def alertSignedRow : OpenClaim := { program := "ytohfofecbdfkgaadoor", sum := "5e35ebb3f101f45f31a7524944b1a6b47b229ff0fcaa6dc3f6516ff77454ebbc", func := "ringdown/ringdownlaw10.AlertSigned", spec := "alertSigned", inPlace := ["internal/abi.NoEscape"], unfollowed := true, recurses := true, named := ["internal/strconv.uint64pow10", "math/bits.deBruijn32tab", "math/bits.deBruijn64tab"], apart := false, laid := [("math/bits.deBruijn32tab", laid_math_bits_deBruijn32tab), ("math/bits.deBruijn64tab", laid_math_bits_deBruijn64tab), ("internal/strconv.uint64pow10", laid_internal_strconv_uint64pow10)] }
def AlertSignedSaid : Prop := alertSignedRow.holds Tryd.pinned (OpenSpec.ofChange alertSignedSpec)

/-- ITS FALSE NEIGHBOUR: 'it returns false'. Refute it at one input. -/
def alertSignedWrong : ChangeSpec := { name := "alertSigned", fn := fun _ => fun
  | [d1, d2, d3] => { results := [.lit (.bool false)], args := [d1, d2, d3] }
  | _ => none }
def AlertSignedWrongFalsely : Prop := alertSignedRow.holds Tryd.pinned (OpenSpec.ofChange alertSignedWrong)

/-- 'ringdownlaw10.AlertChain': WHATEVER THE INPUT: true; the input reads as it did. -/
def alertChainSpec : ChangeSpec := { name := "alertChain", fn := fun _ => fun
  | [d1, d2] => { results := [.lit (.bool true)], args := [d1, d2] }
  | _ => none }
def alertChainRow : OpenClaim := { program := "ytohfofecbdfkgaadoor", sum := "5e35ebb3f101f45f31a7524944b1a6b47b229ff0fcaa6dc3f6516ff77454ebbc", func := "ringdown/ringdownlaw10.AlertChain", spec := "alertChain", inPlace := ["internal/abi.NoEscape"], unfollowed := true, recurses := true, named := ["internal/strconv.uint64pow10", "math/bits.deBruijn32tab", "math/bits.deBruijn64tab"], apart := false, laid := [("math/bits.deBruijn32tab", laid_math_bits_deBruijn32tab), ("math/bits.deBruijn64tab", laid_math_bits_deBruijn64tab), ("internal/strconv.uint64pow10", laid_internal_strconv_uint64pow10)] }
def AlertChainSaid : Prop := alertChainRow.holds Tryd.pinned (OpenSpec.ofChange alertChainSpec)

/-- ITS FALSE NEIGHBOUR: 'it returns false'. Refute it at one input. -/
def alertChainWrong : ChangeSpec := { name := "alertChain", fn := fun _ => fun
  | [d1, d2] => { results := [.lit (.bool false)], args := [d1, d2] }
  | _ => none }
def AlertChainWrongFalsely : Prop := alertChainRow.holds Tryd.pinned (OpenSpec.ofChange alertChainWrong)

/-- 'ringdownlaw10.AlertBoards': WHATEVER THE INPUT: true; the input reads as it did. -/
def alertBoardsSpec : ChangeSpec := { name := "alertBoards", fn := fun _ => fun
  | [d1, d2] => { results := [.lit (.bool true)], args := [d1, d2] }
  | _ => none }
def alertBoardsRow : OpenClaim := { program := "ytohfofecbdfkgaadoor", sum := "5e35ebb3f101f45f31a7524944b1a6b47b229ff0fcaa6dc3f6516ff77454ebbc", func := "ringdown/ringdownlaw10.AlertBoards", spec := "alertBoards", inPlace := ["internal/abi.NoEscape"], unfollowed := true, recurses := true, named := ["internal/strconv.uint64pow10", "math/bits.deBruijn32tab", "math/bits.deBruijn64tab"], apart := false, laid := [("math/bits.deBruijn32tab", laid_math_bits_deBruijn32tab), ("math/bits.deBruijn64tab", laid_math_bits_deBruijn64tab), ("internal/strconv.uint64pow10", laid_internal_strconv_uint64pow10)] }
def AlertBoardsSaid : Prop := alertBoardsRow.holds Tryd.pinned (OpenSpec.ofChange alertBoardsSpec)

/-- ITS FALSE NEIGHBOUR: 'it returns false'. Refute it at one input. -/
def alertBoardsWrong : ChangeSpec := { name := "alertBoards", fn := fun _ => fun
  | [d1, d2] => { results := [.lit (.bool false)], args := [d1, d2] }
  | _ => none }
def AlertBoardsWrongFalsely : Prop := alertBoardsRow.holds Tryd.pinned (OpenSpec.ofChange alertBoardsWrong)

/- THE SECOND FORM. 'bulk': how many values and letters a reading holds, each counted each time it is reached (what is shared counts as often as it is met; a slice's spare places count too). A statement '..UptoSaid' is the law's where the arguments, and the package variables that the reading takes, are together of bulk at most 1048576: NARROWER than '..Said'. Prove '..Said' where nothing that the law and all that it calls make is longer than what came in: it says more and counts as full. Else prove '..UptoSaid'. A law counts once. -/
mutual
def uptoBulk {H : Type} : DataW H → Nat
  | .lit (.string bytes) => bytes.length + 1
  | .lit _ => 1
  | .nil => 1
  | .ptr d => uptoBulk d + 1
  | .slice elems spare => uptoBulkAll elems + uptoBulkAll spare + 1
  | .agg parts => uptoBulkAll parts + 1
  | .iface _ d => uptoBulk d + 1
  | .map entries => uptoBulkEntries entries + 1
  | .held _ => 1
def uptoBulkAll {H : Type} : List (DataW H) → Nat
  | [] => 0
  | d :: r => uptoBulk d + uptoBulkAll r
def uptoBulkEntries {H : Type} : List (Lit × DataW H) → Nat
  | [] => 0
  | x :: r => uptoBulkEntry x + uptoBulkEntries r
def uptoBulkEntry {H : Type} : Lit × DataW H → Nat
  | (.string bytes, d) => bytes.length + uptoBulk d + 1
  | (_, d) => uptoBulk d + 1
 end
def uptoSmall : (H : Type) → List (DataW H) → Bool := fun _ ds => decide (uptoBulkAll ds ≤ 1048576)
def OpenSpec.upto (s : _root_.Go.ChangeSpec) : _root_.Go.OpenSpec := { _root_.Go.OpenSpec.ofChange s with cond := some uptoSmall }

/-- 'ringdownlaw10.AlertNotices', WHERE WHAT IT READS IS OF BULK AT MOST 1048576: true; the input reads as it did. -/
def alertNoticesUptoRow : OpenClaim := { program := "ytohfofecbdfkgaadoor", sum := "5e35ebb3f101f45f31a7524944b1a6b47b229ff0fcaa6dc3f6516ff77454ebbc", func := "ringdown/ringdownlaw10.AlertNotices", spec := "alertNotices", inPlace := ["internal/abi.NoEscape"], unfollowed := true, recurses := true, named := ["internal/strconv.uint64pow10", "math/bits.deBruijn32tab", "math/bits.deBruijn64tab"], apart := false, laid := [("math/bits.deBruijn32tab", laid_math_bits_deBruijn32tab), ("math/bits.deBruijn64tab", laid_math_bits_deBruijn64tab), ("internal/strconv.uint64pow10", laid_internal_strconv_uint64pow10)], narrowed := true }
def AlertNoticesUptoSaid : Prop := alertNoticesUptoRow.holds Tryd.pinned (OpenSpec.upto alertNoticesSpec)

/-- 'ringdownlaw10.AlertDrafts', WHERE WHAT IT READS IS OF BULK AT MOST 1048576: true; the input reads as it did. -/
def alertDraftsUptoRow : OpenClaim := { program := "ytohfofecbdfkgaadoor", sum := "5e35ebb3f101f45f31a7524944b1a6b47b229ff0fcaa6dc3f6516ff77454ebbc", func := "ringdown/ringdownlaw10.AlertDrafts", spec := "alertDrafts", inPlace := ["internal/abi.NoEscape"], unfollowed := true, recurses := true, named := ["internal/strconv.uint64pow10", "math/bits.deBruijn32tab", "math/bits.deBruijn64tab"], apart := false, laid := [("math/bits.deBruijn32tab", laid_math_bits_deBruijn32tab), ("math/bits.deBruijn64tab", laid_math_bits_deBruijn64tab), ("internal/strconv.uint64pow10", laid_internal_strconv_uint64pow10)], narrowed := true }
def AlertDraftsUptoSaid : Prop := alertDraftsUptoRow.holds Tryd.pinned (OpenSpec.upto alertDraftsSpec)

/-- 'ringdownlaw10.AlertKeys', WHERE WHAT IT READS IS OF BULK AT MOST 1048576: true; the input reads as it did. -/
def alertKeysUptoRow : OpenClaim := { program := "ytohfofecbdfkgaadoor", sum := "5e35ebb3f101f45f31a7524944b1a6b47b229ff0fcaa6dc3f6516ff77454ebbc", func := "ringdown/ringdownlaw10.AlertKeys", spec := "alertKeys", inPlace := ["internal/abi.NoEscape"], unfollowed := true, recurses := true, named := ["internal/strconv.uint64pow10", "math/bits.deBruijn32tab", "math/bits.deBruijn64tab"], apart := false, laid := [("math/bits.deBruijn32tab", laid_math_bits_deBruijn32tab), ("math/bits.deBruijn64tab", laid_math_bits_deBruijn64tab), ("internal/strconv.uint64pow10", laid_internal_strconv_uint64pow10)], narrowed := true }
def AlertKeysUptoSaid : Prop := alertKeysUptoRow.holds Tryd.pinned (OpenSpec.upto alertKeysSpec)

/-- 'ringdownlaw10.AlertSigned', WHERE WHAT IT READS IS OF BULK AT MOST 1048576: true; the input reads as it did. -/
def alertSignedUptoRow : OpenClaim := { program := "ytohfofecbdfkgaadoor", sum := "5e35ebb3f101f45f31a7524944b1a6b47b229ff0fcaa6dc3f6516ff77454ebbc", func := "ringdown/ringdownlaw10.AlertSigned", spec := "alertSigned", inPlace := ["internal/abi.NoEscape"], unfollowed := true, recurses := true, named := ["internal/strconv.uint64pow10", "math/bits.deBruijn32tab", "math/bits.deBruijn64tab"], apart := false, laid := [("math/bits.deBruijn32tab", laid_math_bits_deBruijn32tab), ("math/bits.deBruijn64tab", laid_math_bits_deBruijn64tab), ("internal/strconv.uint64pow10", laid_internal_strconv_uint64pow10)], narrowed := true }
def AlertSignedUptoSaid : Prop := alertSignedUptoRow.holds Tryd.pinned (OpenSpec.upto alertSignedSpec)

/-- 'ringdownlaw10.AlertChain', WHERE WHAT IT READS IS OF BULK AT MOST 1048576: true; the input reads as it did. -/
def alertChainUptoRow : OpenClaim := { program := "ytohfofecbdfkgaadoor", sum := "5e35ebb3f101f45f31a7524944b1a6b47b229ff0fcaa6dc3f6516ff77454ebbc", func := "ringdown/ringdownlaw10.AlertChain", spec := "alertChain", inPlace := ["internal/abi.NoEscape"], unfollowed := true, recurses := true, named := ["internal/strconv.uint64pow10", "math/bits.deBruijn32tab", "math/bits.deBruijn64tab"], apart := false, laid := [("math/bits.deBruijn32tab", laid_math_bits_deBruijn32tab), ("math/bits.deBruijn64tab", laid_math_bits_deBruijn64tab), ("internal/strconv.uint64pow10", laid_internal_strconv_uint64pow10)], narrowed := true }
def AlertChainUptoSaid : Prop := alertChainUptoRow.holds Tryd.pinned (OpenSpec.upto alertChainSpec)

/-- 'ringdownlaw10.AlertBoards', WHERE WHAT IT READS IS OF BULK AT MOST 1048576: true; the input reads as it did. -/
def alertBoardsUptoRow : OpenClaim := { program := "ytohfofecbdfkgaadoor", sum := "5e35ebb3f101f45f31a7524944b1a6b47b229ff0fcaa6dc3f6516ff77454ebbc", func := "ringdown/ringdownlaw10.AlertBoards", spec := "alertBoards", inPlace := ["internal/abi.NoEscape"], unfollowed := true, recurses := true, named := ["internal/strconv.uint64pow10", "math/bits.deBruijn32tab", "math/bits.deBruijn64tab"], apart := false, laid := [("math/bits.deBruijn32tab", laid_math_bits_deBruijn32tab), ("math/bits.deBruijn64tab", laid_math_bits_deBruijn64tab), ("internal/strconv.uint64pow10", laid_internal_strconv_uint64pow10)], narrowed := true }
def AlertBoardsUptoSaid : Prop := alertBoardsUptoRow.holds Tryd.pinned (OpenSpec.upto alertBoardsSpec)

end Rows
end Go.Proofs.YtohfofecbdfkgaaDoor
