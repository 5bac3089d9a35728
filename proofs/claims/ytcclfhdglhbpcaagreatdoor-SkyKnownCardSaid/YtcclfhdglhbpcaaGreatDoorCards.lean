/-
  DERIVED. GIVEN WITH THE SEED: THE CARDS: each row of YtcclfhdglhbpcaaGreatDoorRows.lean that lists a variable, with what it lists TIED to the program's text (the seventh form; the later family's looks); each row that meets fmt, with fmt's text TOLD by the authors' own Lean function (tested against real Go, not proved from fmt's source: count such statements apart). THE CARD IS WHAT COUNTS. Prove the row's statement (the work); the ties are given (YtcclfhdglhbpcaaGreatDoorTie.lean); close each card by the builder's one call (the guide's Derived/Test/ToyasCard.lean, 'card_holds'). Laid BY PROGRAM, IN A SANDBOX (cutbox-door.mjs). By AI agents, Wed Nov 11 2026. No macro, syntax, notation, axiom, sorry.
-/
import Derived.Test.YtcclfhdglhbpcaaGreatDoorRows
import GoSem.ClaimSeven
namespace Go.Proofs.YtcclfhdglhbpcaaGreatDoor
namespace Rows

/-- THE TIED CARD OF 'ringdownlaw09.SkyRings'. -/
def skyRingsCard : Claim7 := { stood := { row := skyRingsRow, standIns := [], harness := (true, "cc473203aef57da4702e35ee2a730be668cb0b2e532332c4ca3dbb509a6af54b"), looks := false }, kinds := [], alts := [], laidByText := true, laidKinds := [.data, .data, .data], laidTests := true, laidLooks := .later }
def SkyRingsCardSaid : Prop := Claim7.holds Tryz.pinned (.plain (OpenSpec.ofChange skyRingsSpec)) skyRingsCard

/-- THE TIED CARD OF 'ringdownlaw09.SkyTrue'. -/
def skyTrueCard : Claim7 := { stood := { row := skyTrueRow, standIns := [], harness := (true, "cc473203aef57da4702e35ee2a730be668cb0b2e532332c4ca3dbb509a6af54b"), looks := false }, kinds := [], alts := [], laidByText := true, laidKinds := [.data, .data, .data], laidTests := true, laidLooks := .later }
def SkyTrueCardSaid : Prop := Claim7.holds Tryz.pinned (.plain (OpenSpec.ofChange skyTrueSpec)) skyTrueCard

/-- THE TIED CARD OF 'ringdownlaw09.SkyCells'. -/
def skyCellsCard : Claim7 := { stood := { row := skyCellsRow, standIns := [], harness := (true, "cc473203aef57da4702e35ee2a730be668cb0b2e532332c4ca3dbb509a6af54b"), looks := false }, kinds := [], alts := [], laidByText := true, laidKinds := [.data, .data, .data], laidTests := true, laidLooks := .later }
def SkyCellsCardSaid : Prop := Claim7.holds Tryz.pinned (.plain (OpenSpec.ofChange skyCellsSpec)) skyCellsCard

/-- THE TIED CARD OF 'ringdownlaw09.SkyHome'. -/
def skyHomeCard : Claim7 := { stood := { row := skyHomeRow, standIns := [], harness := (true, "cc473203aef57da4702e35ee2a730be668cb0b2e532332c4ca3dbb509a6af54b"), looks := false }, kinds := [], alts := [], laidByText := true, laidKinds := [.data, .data, .data], laidTests := true, laidLooks := .later }
def SkyHomeCardSaid : Prop := Claim7.holds Tryz.pinned (.plain (OpenSpec.ofChange skyHomeSpec)) skyHomeCard

/-- THE TIED CARD OF 'ringdownlaw09.SkyAllRings'. -/
def skyAllRingsCard : Claim7 := { stood := { row := skyAllRingsRow, standIns := [], harness := (true, "cc473203aef57da4702e35ee2a730be668cb0b2e532332c4ca3dbb509a6af54b"), looks := false }, kinds := [], alts := [], laidByText := true, laidKinds := [.data, .data, .data], laidTests := true, laidLooks := .later }
def SkyAllRingsCardSaid : Prop := Claim7.holds Tryz.pinned (.plain (OpenSpec.ofChange skyAllRingsSpec)) skyAllRingsCard

/-- THE TIED CARD OF 'ringdownlaw09.SkyPlans'. -/
def skyPlansCard : Claim7 := { stood := { row := skyPlansRow, standIns := [], harness := (true, "cc473203aef57da4702e35ee2a730be668cb0b2e532332c4ca3dbb509a6af54b"), looks := false }, kinds := [], alts := [], laidByText := true, laidKinds := [.data, .data, .data], laidTests := true, laidLooks := .later }
def SkyPlansCardSaid : Prop := Claim7.holds Tryz.pinned (.plain (OpenSpec.ofChange skyPlansSpec)) skyPlansCard

/-- THE TIED CARD OF 'ringdownlaw09.SkyHalf'. -/
def skyHalfCard : Claim7 := { stood := { row := skyHalfRow, standIns := [], harness := (true, "cc473203aef57da4702e35ee2a730be668cb0b2e532332c4ca3dbb509a6af54b"), looks := false }, kinds := [], alts := [], laidByText := true, laidKinds := [.data, .data, .data], laidTests := true, laidLooks := .later }
def SkyHalfCardSaid : Prop := Claim7.holds Tryz.pinned (.plain (OpenSpec.ofChange skyHalfSpec)) skyHalfCard

/-- THE TIED CARD OF 'ringdownlaw09.SkyScopes'. -/
def skyScopesCard : Claim7 := { stood := { row := skyScopesRow, standIns := [], harness := (true, "cc473203aef57da4702e35ee2a730be668cb0b2e532332c4ca3dbb509a6af54b"), looks := false }, kinds := [], alts := [], laidByText := true, laidKinds := [.data, .data, .data], laidTests := true, laidLooks := .later }
def SkyScopesCardSaid : Prop := Claim7.holds Tryz.pinned (.plain (OpenSpec.ofChange skyScopesSpec)) skyScopesCard

/-- THE TIED CARD OF 'ringdownlaw09.SkyKnown'. -/
def skyKnownCard : Claim7 := { stood := { row := skyKnownRow, standIns := [], harness := (true, "cc473203aef57da4702e35ee2a730be668cb0b2e532332c4ca3dbb509a6af54b"), looks := false }, kinds := [], alts := [], laidByText := true, laidKinds := [.data, .data, .data], laidTests := true, laidLooks := .later }
def SkyKnownCardSaid : Prop := Claim7.holds Tryz.pinned (.plain (OpenSpec.ofChange skyKnownSpec)) skyKnownCard

/-- THE SECOND FORM's CARD OF 'ringdownlaw09.SkyRings'. -/
def skyRingsUptoCard : Claim7 := { stood := { row := skyRingsUptoRow, standIns := [], harness := (true, "cc473203aef57da4702e35ee2a730be668cb0b2e532332c4ca3dbb509a6af54b"), looks := false }, kinds := [], alts := [], laidByText := true, laidKinds := [.data, .data, .data], laidTests := true, laidLooks := .later }
def SkyRingsUptoCardSaid : Prop := Claim7.holds Tryz.pinned (.plain (OpenSpec.upto skyRingsSpec)) skyRingsUptoCard

/-- THE SECOND FORM's CARD OF 'ringdownlaw09.SkyTrue'. -/
def skyTrueUptoCard : Claim7 := { stood := { row := skyTrueUptoRow, standIns := [], harness := (true, "cc473203aef57da4702e35ee2a730be668cb0b2e532332c4ca3dbb509a6af54b"), looks := false }, kinds := [], alts := [], laidByText := true, laidKinds := [.data, .data, .data], laidTests := true, laidLooks := .later }
def SkyTrueUptoCardSaid : Prop := Claim7.holds Tryz.pinned (.plain (OpenSpec.upto skyTrueSpec)) skyTrueUptoCard

/-- THE SECOND FORM's CARD OF 'ringdownlaw09.SkyCells'. -/
def skyCellsUptoCard : Claim7 := { stood := { row := skyCellsUptoRow, standIns := [], harness := (true, "cc473203aef57da4702e35ee2a730be668cb0b2e532332c4ca3dbb509a6af54b"), looks := false }, kinds := [], alts := [], laidByText := true, laidKinds := [.data, .data, .data], laidTests := true, laidLooks := .later }
def SkyCellsUptoCardSaid : Prop := Claim7.holds Tryz.pinned (.plain (OpenSpec.upto skyCellsSpec)) skyCellsUptoCard

/-- THE SECOND FORM's CARD OF 'ringdownlaw09.SkyHome'. -/
def skyHomeUptoCard : Claim7 := { stood := { row := skyHomeUptoRow, standIns := [], harness := (true, "cc473203aef57da4702e35ee2a730be668cb0b2e532332c4ca3dbb509a6af54b"), looks := false }, kinds := [], alts := [], laidByText := true, laidKinds := [.data, .data, .data], laidTests := true, laidLooks := .later }
def SkyHomeUptoCardSaid : Prop := Claim7.holds Tryz.pinned (.plain (OpenSpec.upto skyHomeSpec)) skyHomeUptoCard

/-- THE SECOND FORM's CARD OF 'ringdownlaw09.SkyAllRings'. -/
def skyAllRingsUptoCard : Claim7 := { stood := { row := skyAllRingsUptoRow, standIns := [], harness := (true, "cc473203aef57da4702e35ee2a730be668cb0b2e532332c4ca3dbb509a6af54b"), looks := false }, kinds := [], alts := [], laidByText := true, laidKinds := [.data, .data, .data], laidTests := true, laidLooks := .later }
def SkyAllRingsUptoCardSaid : Prop := Claim7.holds Tryz.pinned (.plain (OpenSpec.upto skyAllRingsSpec)) skyAllRingsUptoCard

/-- THE SECOND FORM's CARD OF 'ringdownlaw09.SkyPlans'. -/
def skyPlansUptoCard : Claim7 := { stood := { row := skyPlansUptoRow, standIns := [], harness := (true, "cc473203aef57da4702e35ee2a730be668cb0b2e532332c4ca3dbb509a6af54b"), looks := false }, kinds := [], alts := [], laidByText := true, laidKinds := [.data, .data, .data], laidTests := true, laidLooks := .later }
def SkyPlansUptoCardSaid : Prop := Claim7.holds Tryz.pinned (.plain (OpenSpec.upto skyPlansSpec)) skyPlansUptoCard

/-- THE SECOND FORM's CARD OF 'ringdownlaw09.SkyHalf'. -/
def skyHalfUptoCard : Claim7 := { stood := { row := skyHalfUptoRow, standIns := [], harness := (true, "cc473203aef57da4702e35ee2a730be668cb0b2e532332c4ca3dbb509a6af54b"), looks := false }, kinds := [], alts := [], laidByText := true, laidKinds := [.data, .data, .data], laidTests := true, laidLooks := .later }
def SkyHalfUptoCardSaid : Prop := Claim7.holds Tryz.pinned (.plain (OpenSpec.upto skyHalfSpec)) skyHalfUptoCard

/-- THE SECOND FORM's CARD OF 'ringdownlaw09.SkyScopes'. -/
def skyScopesUptoCard : Claim7 := { stood := { row := skyScopesUptoRow, standIns := [], harness := (true, "cc473203aef57da4702e35ee2a730be668cb0b2e532332c4ca3dbb509a6af54b"), looks := false }, kinds := [], alts := [], laidByText := true, laidKinds := [.data, .data, .data], laidTests := true, laidLooks := .later }
def SkyScopesUptoCardSaid : Prop := Claim7.holds Tryz.pinned (.plain (OpenSpec.upto skyScopesSpec)) skyScopesUptoCard

/-- THE SECOND FORM's CARD OF 'ringdownlaw09.SkyKnown'. -/
def skyKnownUptoCard : Claim7 := { stood := { row := skyKnownUptoRow, standIns := [], harness := (true, "cc473203aef57da4702e35ee2a730be668cb0b2e532332c4ca3dbb509a6af54b"), looks := false }, kinds := [], alts := [], laidByText := true, laidKinds := [.data, .data, .data], laidTests := true, laidLooks := .later }
def SkyKnownUptoCardSaid : Prop := Claim7.holds Tryz.pinned (.plain (OpenSpec.upto skyKnownSpec)) skyKnownUptoCard
end Rows
end Go.Proofs.YtcclfhdglhbpcaaGreatDoor
