/-
  DERIVED. GIVEN WITH THE SEED: THE CARDS: each row of YtohfofecbdfkgaaDoorRows.lean that lists a variable, with what it lists TIED to the program's text (the seventh form; the later family's looks); each row that meets fmt, with fmt's text TOLD by the authors' own Lean function (tested against real Go, not proved from fmt's source: count such statements apart). THE CARD IS WHAT COUNTS. Prove the row's statement (the work); the ties are given (YtohfofecbdfkgaaDoorTie.lean); close each card by the builder's one call (the guide's Derived/Test/ToyasCard.lean, 'card_holds'). Laid BY PROGRAM, IN A SANDBOX (cutbox-door.mjs). By AI agents, Wed Nov 11 2026. No macro, syntax, notation, axiom, sorry.
-/
import Derived.Test.YtohfofecbdfkgaaDoorRows
import GoSem.ClaimSeven
namespace Go.Proofs.YtohfofecbdfkgaaDoor
namespace Rows

/-- THE TIED CARD OF 'ringdownlaw10.AlertNotices'. -/
def alertNoticesCard : Claim7 := { stood := { row := alertNoticesRow, standIns := [], harness := (true, "db99d4a0e69464b376bb05941d181204616b14672c3030980e725dd463bb4d61"), looks := false }, kinds := [], alts := [], laidByText := true, laidKinds := [.data, .data, .data], laidTests := true, laidLooks := .later }
def AlertNoticesCardSaid : Prop := Claim7.holds Tryd.pinned (.plain (OpenSpec.ofChange alertNoticesSpec)) alertNoticesCard

/-- THE TIED CARD OF 'ringdownlaw10.AlertDrafts'. -/
def alertDraftsCard : Claim7 := { stood := { row := alertDraftsRow, standIns := [], harness := (true, "db99d4a0e69464b376bb05941d181204616b14672c3030980e725dd463bb4d61"), looks := false }, kinds := [], alts := [], laidByText := true, laidKinds := [.data, .data, .data], laidTests := true, laidLooks := .later }
def AlertDraftsCardSaid : Prop := Claim7.holds Tryd.pinned (.plain (OpenSpec.ofChange alertDraftsSpec)) alertDraftsCard

/-- THE TIED CARD OF 'ringdownlaw10.AlertKeys'. -/
def alertKeysCard : Claim7 := { stood := { row := alertKeysRow, standIns := [], harness := (true, "db99d4a0e69464b376bb05941d181204616b14672c3030980e725dd463bb4d61"), looks := false }, kinds := [], alts := [], laidByText := true, laidKinds := [.data, .data, .data], laidTests := true, laidLooks := .later }
def AlertKeysCardSaid : Prop := Claim7.holds Tryd.pinned (.plain (OpenSpec.ofChange alertKeysSpec)) alertKeysCard

/-- THE TIED CARD OF 'ringdownlaw10.AlertSigned'. -/
def alertSignedCard : Claim7 := { stood := { row := alertSignedRow, standIns := [], harness := (true, "db99d4a0e69464b376bb05941d181204616b14672c3030980e725dd463bb4d61"), looks := false }, kinds := [], alts := [], laidByText := true, laidKinds := [.data, .data, .data], laidTests := true, laidLooks := .later }
def AlertSignedCardSaid : Prop := Claim7.holds Tryd.pinned (.plain (OpenSpec.ofChange alertSignedSpec)) alertSignedCard

/-- THE TIED CARD OF 'ringdownlaw10.AlertChain'. -/
def alertChainCard : Claim7 := { stood := { row := alertChainRow, standIns := [], harness := (true, "db99d4a0e69464b376bb05941d181204616b14672c3030980e725dd463bb4d61"), looks := false }, kinds := [], alts := [], laidByText := true, laidKinds := [.data, .data, .data], laidTests := true, laidLooks := .later }
def AlertChainCardSaid : Prop := Claim7.holds Tryd.pinned (.plain (OpenSpec.ofChange alertChainSpec)) alertChainCard

/-- THE TIED CARD OF 'ringdownlaw10.AlertBoards'. -/
def alertBoardsCard : Claim7 := { stood := { row := alertBoardsRow, standIns := [], harness := (true, "db99d4a0e69464b376bb05941d181204616b14672c3030980e725dd463bb4d61"), looks := false }, kinds := [], alts := [], laidByText := true, laidKinds := [.data, .data, .data], laidTests := true, laidLooks := .later }
def AlertBoardsCardSaid : Prop := Claim7.holds Tryd.pinned (.plain (OpenSpec.ofChange alertBoardsSpec)) alertBoardsCard

/-- THE SECOND FORM's CARD OF 'ringdownlaw10.AlertNotices'. -/
def alertNoticesUptoCard : Claim7 := { stood := { row := alertNoticesUptoRow, standIns := [], harness := (true, "db99d4a0e69464b376bb05941d181204616b14672c3030980e725dd463bb4d61"), looks := false }, kinds := [], alts := [], laidByText := true, laidKinds := [.data, .data, .data], laidTests := true, laidLooks := .later }
def AlertNoticesUptoCardSaid : Prop := Claim7.holds Tryd.pinned (.plain (OpenSpec.upto alertNoticesSpec)) alertNoticesUptoCard

/-- THE SECOND FORM's CARD OF 'ringdownlaw10.AlertDrafts'. -/
def alertDraftsUptoCard : Claim7 := { stood := { row := alertDraftsUptoRow, standIns := [], harness := (true, "db99d4a0e69464b376bb05941d181204616b14672c3030980e725dd463bb4d61"), looks := false }, kinds := [], alts := [], laidByText := true, laidKinds := [.data, .data, .data], laidTests := true, laidLooks := .later }
def AlertDraftsUptoCardSaid : Prop := Claim7.holds Tryd.pinned (.plain (OpenSpec.upto alertDraftsSpec)) alertDraftsUptoCard

/-- THE SECOND FORM's CARD OF 'ringdownlaw10.AlertKeys'. -/
def alertKeysUptoCard : Claim7 := { stood := { row := alertKeysUptoRow, standIns := [], harness := (true, "db99d4a0e69464b376bb05941d181204616b14672c3030980e725dd463bb4d61"), looks := false }, kinds := [], alts := [], laidByText := true, laidKinds := [.data, .data, .data], laidTests := true, laidLooks := .later }
def AlertKeysUptoCardSaid : Prop := Claim7.holds Tryd.pinned (.plain (OpenSpec.upto alertKeysSpec)) alertKeysUptoCard

/-- THE SECOND FORM's CARD OF 'ringdownlaw10.AlertSigned'. -/
def alertSignedUptoCard : Claim7 := { stood := { row := alertSignedUptoRow, standIns := [], harness := (true, "db99d4a0e69464b376bb05941d181204616b14672c3030980e725dd463bb4d61"), looks := false }, kinds := [], alts := [], laidByText := true, laidKinds := [.data, .data, .data], laidTests := true, laidLooks := .later }
def AlertSignedUptoCardSaid : Prop := Claim7.holds Tryd.pinned (.plain (OpenSpec.upto alertSignedSpec)) alertSignedUptoCard

/-- THE SECOND FORM's CARD OF 'ringdownlaw10.AlertChain'. -/
def alertChainUptoCard : Claim7 := { stood := { row := alertChainUptoRow, standIns := [], harness := (true, "db99d4a0e69464b376bb05941d181204616b14672c3030980e725dd463bb4d61"), looks := false }, kinds := [], alts := [], laidByText := true, laidKinds := [.data, .data, .data], laidTests := true, laidLooks := .later }
def AlertChainUptoCardSaid : Prop := Claim7.holds Tryd.pinned (.plain (OpenSpec.upto alertChainSpec)) alertChainUptoCard

/-- THE SECOND FORM's CARD OF 'ringdownlaw10.AlertBoards'. -/
def alertBoardsUptoCard : Claim7 := { stood := { row := alertBoardsUptoRow, standIns := [], harness := (true, "db99d4a0e69464b376bb05941d181204616b14672c3030980e725dd463bb4d61"), looks := false }, kinds := [], alts := [], laidByText := true, laidKinds := [.data, .data, .data], laidTests := true, laidLooks := .later }
def AlertBoardsUptoCardSaid : Prop := Claim7.holds Tryd.pinned (.plain (OpenSpec.upto alertBoardsSpec)) alertBoardsUptoCard
end Rows
end Go.Proofs.YtohfofecbdfkgaaDoor
