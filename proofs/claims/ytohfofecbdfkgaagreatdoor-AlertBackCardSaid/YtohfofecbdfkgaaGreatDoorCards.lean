/-
  DERIVED. GIVEN WITH THE SEED: THE CARDS: each row of YtohfofecbdfkgaaGreatDoorRows.lean that lists a variable, with what it lists TIED to the program's text (the seventh form; the later family's looks); each row that meets fmt, with fmt's text TOLD by the authors' own Lean function (tested against real Go, not proved from fmt's source: count such statements apart). THE CARD IS WHAT COUNTS. Prove the row's statement (the work); the ties are given (YtohfofecbdfkgaaGreatDoorTie.lean); close each card by the builder's one call (the guide's Derived/Test/ToyasCard.lean, 'card_holds'). Laid BY PROGRAM, IN A SANDBOX (cutbox-door.mjs). By AI agents, Wed Nov 11 2026. No macro, syntax, notation, axiom, sorry.
-/
import Derived.Test.YtohfofecbdfkgaaGreatDoorRows
import GoSem.ClaimSeven
namespace Go.Proofs.YtohfofecbdfkgaaGreatDoor
namespace Rows

/-- THE TIED CARD OF 'ringdownlaw10.AlertStays'. -/
def alertStaysCard : Claim7 := { stood := { row := alertStaysRow, standIns := [], harness := (true, "ec8078de6670eccc188de69d2b39a87d7c4e6cdb44429976f65385b51db70a17"), looks := true }, kinds := [], alts := [], laidByText := true, laidKinds := [.data, .data, .data], laidTests := true, laidLooks := .later }
def AlertStaysCardSaid : Prop := Claim7.holds Tryz.pinned (.plain (OpenSpec.ofChange alertStaysSpec)) alertStaysCard

/-- THE TIED CARD OF 'ringdownlaw10.AlertKnown'. -/
def alertKnownCard : Claim7 := { stood := { row := alertKnownRow, standIns := [], harness := (true, "ec8078de6670eccc188de69d2b39a87d7c4e6cdb44429976f65385b51db70a17"), looks := true }, kinds := [], alts := [], laidByText := true, laidKinds := [.data, .data, .data], laidTests := true, laidLooks := .later }
def AlertKnownCardSaid : Prop := Claim7.holds Tryz.pinned (.plain (OpenSpec.ofChange alertKnownSpec)) alertKnownCard

/-- THE TIED CARD OF 'ringdownlaw10.AlertSettles'. -/
def alertSettlesCard : Claim7 := { stood := { row := alertSettlesRow, standIns := [], harness := (true, "ec8078de6670eccc188de69d2b39a87d7c4e6cdb44429976f65385b51db70a17"), looks := true }, kinds := [], alts := [], laidByText := true, laidKinds := [.data, .data, .data], laidTests := true, laidLooks := .later }
def AlertSettlesCardSaid : Prop := Claim7.holds Tryz.pinned (.plain (OpenSpec.ofChange alertSettlesSpec)) alertSettlesCard

/-- THE TIED CARD OF 'ringdownlaw10.AlertOrder'. -/
def alertOrderCard : Claim7 := { stood := { row := alertOrderRow, standIns := [], harness := (true, "ec8078de6670eccc188de69d2b39a87d7c4e6cdb44429976f65385b51db70a17"), looks := true }, kinds := [], alts := [], laidByText := true, laidKinds := [.data, .data, .data], laidTests := true, laidLooks := .later }
def AlertOrderCardSaid : Prop := Claim7.holds Tryz.pinned (.plain (OpenSpec.ofChange alertOrderSpec)) alertOrderCard

/-- THE TIED CARD OF 'ringdownlaw10.AlertAgrees'. -/
def alertAgreesCard : Claim7 := { stood := { row := alertAgreesRow, standIns := [], harness := (true, "ec8078de6670eccc188de69d2b39a87d7c4e6cdb44429976f65385b51db70a17"), looks := true }, kinds := [], alts := [], laidByText := true, laidKinds := [.data, .data, .data], laidTests := true, laidLooks := .later }
def AlertAgreesCardSaid : Prop := Claim7.holds Tryz.pinned (.plain (OpenSpec.ofChange alertAgreesSpec)) alertAgreesCard

/-- THE TIED CARD OF 'ringdownlaw10.AlertBlame'. -/
def alertBlameCard : Claim7 := { stood := { row := alertBlameRow, standIns := [], harness := (true, "ec8078de6670eccc188de69d2b39a87d7c4e6cdb44429976f65385b51db70a17"), looks := true }, kinds := [], alts := [], laidByText := true, laidKinds := [.data, .data, .data], laidTests := true, laidLooks := .later }
def AlertBlameCardSaid : Prop := Claim7.holds Tryz.pinned (.plain (OpenSpec.ofChange alertBlameSpec)) alertBlameCard

/-- THE TIED CARD OF 'ringdownlaw10.AlertTexts'. -/
def alertTextsCard : Claim7 := { stood := { row := alertTextsRow, standIns := [], harness := (true, "ec8078de6670eccc188de69d2b39a87d7c4e6cdb44429976f65385b51db70a17"), looks := true }, kinds := [], alts := [], laidByText := true, laidKinds := [.data, .data, .data, .data, .sentinel, .sentinel, .pinned], laidTests := true, laidLooks := .later }
def AlertTextsCardSaid : Prop := Claim7.holds Tryz.pinned (.plain (OpenSpec.ofChange alertTextsSpec)) alertTextsCard

/-- THE TIED CARD OF 'ringdownlaw10.AlertBack'. -/
def alertBackCard : Claim7 := { stood := { row := alertBackRow, standIns := [], harness := (true, "ec8078de6670eccc188de69d2b39a87d7c4e6cdb44429976f65385b51db70a17"), looks := true }, kinds := [], alts := [], laidByText := true, laidKinds := [.data, .data, .data, .data, .sentinel, .sentinel, .pinned], laidTests := true, laidLooks := .later }
def AlertBackCardSaid : Prop := Claim7.holds Tryz.pinned (.plain (OpenSpec.ofChange alertBackSpec)) alertBackCard

/-- THE SECOND FORM's CARD OF 'ringdownlaw10.AlertStays'. -/
def alertStaysUptoCard : Claim7 := { stood := { row := alertStaysUptoRow, standIns := [], harness := (true, "ec8078de6670eccc188de69d2b39a87d7c4e6cdb44429976f65385b51db70a17"), looks := true }, kinds := [], alts := [], laidByText := true, laidKinds := [.data, .data, .data], laidTests := true, laidLooks := .later }
def AlertStaysUptoCardSaid : Prop := Claim7.holds Tryz.pinned (.plain (OpenSpec.upto alertStaysSpec)) alertStaysUptoCard

/-- THE SECOND FORM's CARD OF 'ringdownlaw10.AlertKnown'. -/
def alertKnownUptoCard : Claim7 := { stood := { row := alertKnownUptoRow, standIns := [], harness := (true, "ec8078de6670eccc188de69d2b39a87d7c4e6cdb44429976f65385b51db70a17"), looks := true }, kinds := [], alts := [], laidByText := true, laidKinds := [.data, .data, .data], laidTests := true, laidLooks := .later }
def AlertKnownUptoCardSaid : Prop := Claim7.holds Tryz.pinned (.plain (OpenSpec.upto alertKnownSpec)) alertKnownUptoCard

/-- THE SECOND FORM's CARD OF 'ringdownlaw10.AlertSettles'. -/
def alertSettlesUptoCard : Claim7 := { stood := { row := alertSettlesUptoRow, standIns := [], harness := (true, "ec8078de6670eccc188de69d2b39a87d7c4e6cdb44429976f65385b51db70a17"), looks := true }, kinds := [], alts := [], laidByText := true, laidKinds := [.data, .data, .data], laidTests := true, laidLooks := .later }
def AlertSettlesUptoCardSaid : Prop := Claim7.holds Tryz.pinned (.plain (OpenSpec.upto alertSettlesSpec)) alertSettlesUptoCard

/-- THE SECOND FORM's CARD OF 'ringdownlaw10.AlertOrder'. -/
def alertOrderUptoCard : Claim7 := { stood := { row := alertOrderUptoRow, standIns := [], harness := (true, "ec8078de6670eccc188de69d2b39a87d7c4e6cdb44429976f65385b51db70a17"), looks := true }, kinds := [], alts := [], laidByText := true, laidKinds := [.data, .data, .data], laidTests := true, laidLooks := .later }
def AlertOrderUptoCardSaid : Prop := Claim7.holds Tryz.pinned (.plain (OpenSpec.upto alertOrderSpec)) alertOrderUptoCard

/-- THE SECOND FORM's CARD OF 'ringdownlaw10.AlertAgrees'. -/
def alertAgreesUptoCard : Claim7 := { stood := { row := alertAgreesUptoRow, standIns := [], harness := (true, "ec8078de6670eccc188de69d2b39a87d7c4e6cdb44429976f65385b51db70a17"), looks := true }, kinds := [], alts := [], laidByText := true, laidKinds := [.data, .data, .data], laidTests := true, laidLooks := .later }
def AlertAgreesUptoCardSaid : Prop := Claim7.holds Tryz.pinned (.plain (OpenSpec.upto alertAgreesSpec)) alertAgreesUptoCard

/-- THE SECOND FORM's CARD OF 'ringdownlaw10.AlertBlame'. -/
def alertBlameUptoCard : Claim7 := { stood := { row := alertBlameUptoRow, standIns := [], harness := (true, "ec8078de6670eccc188de69d2b39a87d7c4e6cdb44429976f65385b51db70a17"), looks := true }, kinds := [], alts := [], laidByText := true, laidKinds := [.data, .data, .data], laidTests := true, laidLooks := .later }
def AlertBlameUptoCardSaid : Prop := Claim7.holds Tryz.pinned (.plain (OpenSpec.upto alertBlameSpec)) alertBlameUptoCard

/-- THE SECOND FORM's CARD OF 'ringdownlaw10.AlertTexts'. -/
def alertTextsUptoCard : Claim7 := { stood := { row := alertTextsUptoRow, standIns := [], harness := (true, "ec8078de6670eccc188de69d2b39a87d7c4e6cdb44429976f65385b51db70a17"), looks := true }, kinds := [], alts := [], laidByText := true, laidKinds := [.data, .data, .data, .data, .sentinel, .sentinel, .pinned], laidTests := true, laidLooks := .later }
def AlertTextsUptoCardSaid : Prop := Claim7.holds Tryz.pinned (.plain (OpenSpec.upto alertTextsSpec)) alertTextsUptoCard

/-- THE SECOND FORM's CARD OF 'ringdownlaw10.AlertBack'. -/
def alertBackUptoCard : Claim7 := { stood := { row := alertBackUptoRow, standIns := [], harness := (true, "ec8078de6670eccc188de69d2b39a87d7c4e6cdb44429976f65385b51db70a17"), looks := true }, kinds := [], alts := [], laidByText := true, laidKinds := [.data, .data, .data, .data, .sentinel, .sentinel, .pinned], laidTests := true, laidLooks := .later }
def AlertBackUptoCardSaid : Prop := Claim7.holds Tryz.pinned (.plain (OpenSpec.upto alertBackSpec)) alertBackUptoCard
end Rows
end Go.Proofs.YtohfofecbdfkgaaGreatDoor
