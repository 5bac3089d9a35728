/-
  DERIVED. GIVEN WITH THE SEED: THE CARDS: each row of YtpphnnijnnfngaaGreatDoorRows.lean that lists a variable, with what it lists TIED to the program's text (the seventh form; the later family's looks); each row that meets fmt, with fmt's text TOLD by the authors' own Lean function (tested against real Go, not proved from fmt's source: count such statements apart). THE CARD IS WHAT COUNTS. Prove the row's statement (the work); the ties are given (YtpphnnijnnfngaaGreatDoorTie.lean); close each card by the builder's one call (the guide's Derived/Test/ToyasCard.lean, 'card_holds'). Laid BY PROGRAM, IN A SANDBOX (cutbox-door.mjs). By AI agents, Wed Nov 11 2026. No macro, syntax, notation, axiom, sorry.
-/
import Derived.Test.YtpphnnijnnfngaaGreatDoorRows
import GoSem.ClaimSeven
namespace Go.Proofs.YtpphnnijnnfngaaGreatDoor
namespace Rows

/-- THE TIED CARD OF 'ringdownlaw09.SkyArms'. -/
def skyArmsCard : Claim7 := { stood := { row := skyArmsRow, standIns := [], harness := (true, "f9b46bbf8a630af98ffe2166abafd4c04953bd889ff7c38d269652cd730f8e6b"), looks := false }, kinds := [], alts := [], laidByText := true, laidKinds := [.data, .data, .data], laidTests := true, laidLooks := .later }
def SkyArmsCardSaid : Prop := Claim7.holds Tryz.pinned (.plain (OpenSpec.ofChange skyArmsSpec)) skyArmsCard

/-- THE SECOND FORM's CARD OF 'ringdownlaw09.SkyArms'. -/
def skyArmsUptoCard : Claim7 := { stood := { row := skyArmsUptoRow, standIns := [], harness := (true, "f9b46bbf8a630af98ffe2166abafd4c04953bd889ff7c38d269652cd730f8e6b"), looks := false }, kinds := [], alts := [], laidByText := true, laidKinds := [.data, .data, .data], laidTests := true, laidLooks := .later }
def SkyArmsUptoCardSaid : Prop := Claim7.holds Tryz.pinned (.plain (OpenSpec.upto skyArmsSpec)) skyArmsUptoCard
end Rows
end Go.Proofs.YtpphnnijnnfngaaGreatDoor
