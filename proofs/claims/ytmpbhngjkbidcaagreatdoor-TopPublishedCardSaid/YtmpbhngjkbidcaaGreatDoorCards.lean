/-
  DERIVED. GIVEN WITH THE SEED: THE CARDS: each row of YtmpbhngjkbidcaaGreatDoorRows.lean that lists a variable, with what it lists TIED to the program's text (the seventh form; the later family's looks); each row that meets fmt, with fmt's text TOLD by the authors' own Lean function (tested against real Go, not proved from fmt's source: count such statements apart). THE CARD IS WHAT COUNTS. Prove the row's statement (the work); the ties are given (YtmpbhngjkbidcaaGreatDoorTie.lean); close each card by the builder's one call (the guide's Derived/Test/ToyasCard.lean, 'card_holds'). Laid BY PROGRAM, IN A SANDBOX (cutbox-door.mjs). By AI agents, Wed Nov 11 2026. No macro, syntax, notation, axiom, sorry.
-/
import Derived.Test.YtmpbhngjkbidcaaGreatDoorRows
import GoSem.ClaimSeven
namespace Go.Proofs.YtmpbhngjkbidcaaGreatDoor
namespace Rows

/-- THE TIED CARD OF 'ringdownlaw10.AlertNight'. -/
def alertNightCard : Claim7 := { stood := { row := alertNightRow, standIns := [], harness := (true, "f2c502873773407654f206310c8b99464f07fa0837e58218d85c9ec7f72fcf8c"), looks := true }, kinds := [], alts := [], laidByText := true, laidKinds := [.data, .data, .data], laidTests := true, laidLooks := .later }
def AlertNightCardSaid : Prop := Claim7.holds Tryz.pinned (.plain (OpenSpec.ofChange alertNightSpec)) alertNightCard

/-- THE TIED CARD OF 'ringdowntop.TopPublished'. -/
def topPublishedCard : Claim7 := { stood := { row := topPublishedRow, standIns := [], harness := (true, "f2c502873773407654f206310c8b99464f07fa0837e58218d85c9ec7f72fcf8c"), looks := true }, kinds := [], alts := [], laidByText := true, laidKinds := [.data, .data, .data, .data, .sentinel, .sentinel, .pinned], laidTests := true, laidLooks := .later }
def TopPublishedCardSaid : Prop := Claim7.holds Tryz.pinned (.plain (OpenSpec.ofChange topPublishedSpec)) topPublishedCard

/-- THE SECOND FORM's CARD OF 'ringdownlaw10.AlertNight'. -/
def alertNightUptoCard : Claim7 := { stood := { row := alertNightUptoRow, standIns := [], harness := (true, "f2c502873773407654f206310c8b99464f07fa0837e58218d85c9ec7f72fcf8c"), looks := true }, kinds := [], alts := [], laidByText := true, laidKinds := [.data, .data, .data], laidTests := true, laidLooks := .later }
def AlertNightUptoCardSaid : Prop := Claim7.holds Tryz.pinned (.plain (OpenSpec.upto alertNightSpec)) alertNightUptoCard

/-- THE SECOND FORM's CARD OF 'ringdowntop.TopPublished'. -/
def topPublishedUptoCard : Claim7 := { stood := { row := topPublishedUptoRow, standIns := [], harness := (true, "f2c502873773407654f206310c8b99464f07fa0837e58218d85c9ec7f72fcf8c"), looks := true }, kinds := [], alts := [], laidByText := true, laidKinds := [.data, .data, .data, .data, .sentinel, .sentinel, .pinned], laidTests := true, laidLooks := .later }
def TopPublishedUptoCardSaid : Prop := Claim7.holds Tryz.pinned (.plain (OpenSpec.upto topPublishedSpec)) topPublishedUptoCard
end Rows
end Go.Proofs.YtmpbhngjkbidcaaGreatDoor
