/-
  DERIVED. GIVEN WITH THE SEED: THE CARDS: each row of YtjnafjgonoficaaGreatDoorRows.lean that lists a variable, with what it lists TIED to the program's text (the seventh form; the later family's looks); each row that meets fmt, with fmt's text TOLD by the authors' own Lean function (tested against real Go, not proved from fmt's source: count such statements apart). THE CARD IS WHAT COUNTS. Prove the row's statement (the work); the ties are given (YtjnafjgonoficaaGreatDoorTie.lean); close each card by the builder's one call (the guide's Derived/Test/ToyasCard.lean, 'card_holds'). Laid BY PROGRAM, IN A SANDBOX (cutbox-door.mjs). By AI agents, Wed Nov 11 2026. No macro, syntax, notation, axiom, sorry.
-/
import Derived.Test.YtjnafjgonoficaaGreatDoorRows
import GoSem.ClaimSeven
namespace Go.Proofs.YtjnafjgonoficaaGreatDoor
namespace Rows

/-- THE TIED CARD OF 'smockinglaw03.CondLines'. -/
def condLinesCard : Claim7 := { stood := { row := condLinesRow, standIns := [], harness := (true, "3701fa35b9ff7a4da1d0b1a1f2e64c3bcc3a15dc6c70763b18016c7e3e30a701"), looks := true }, kinds := [], alts := [], laidByText := true, laidKinds := [.data, .data, .data, .data, .sentinel, .sentinel, .listed, .data, .pinned, .pinned], laidTests := true, laidLooks := .later }
def CondLinesCardSaid : Prop := Claim7.holds Tryz.pinned (.plain (OpenSpec.ofChange condLinesSpec)) condLinesCard

/-- THE TIED CARD OF 'smockinglaw03.CondViews'. -/
def condViewsCard : Claim7 := { stood := { row := condViewsRow, standIns := [], harness := (true, "3701fa35b9ff7a4da1d0b1a1f2e64c3bcc3a15dc6c70763b18016c7e3e30a701"), looks := true }, kinds := [], alts := [], laidByText := true, laidKinds := [.data, .data, .data, .data, .sentinel, .sentinel, .listed, .data, .pinned, .pinned], laidTests := true, laidLooks := .later }
def CondViewsCardSaid : Prop := Claim7.holds Tryz.pinned (.plain (OpenSpec.ofChange condViewsSpec)) condViewsCard

/-- THE TIED CARD OF 'smockinglaw03.CondEvals'. -/
def condEvalsCard : Claim7 := { stood := { row := condEvalsRow, standIns := [], harness := (true, "3701fa35b9ff7a4da1d0b1a1f2e64c3bcc3a15dc6c70763b18016c7e3e30a701"), looks := true }, kinds := [], alts := [], laidByText := true, laidKinds := [.data, .data, .data, .data, .sentinel, .sentinel, .listed, .data, .pinned, .pinned], laidTests := true, laidLooks := .later }
def CondEvalsCardSaid : Prop := Claim7.holds Tryz.pinned (.plain (OpenSpec.ofChange condEvalsSpec)) condEvalsCard

/-- THE TIED CARD OF 'smockinglaw03.CondCovers'. -/
def condCoversCard : Claim7 := { stood := { row := condCoversRow, standIns := [], harness := (true, "3701fa35b9ff7a4da1d0b1a1f2e64c3bcc3a15dc6c70763b18016c7e3e30a701"), looks := true }, kinds := [], alts := [], laidByText := true, laidKinds := [.data, .data, .data, .data, .sentinel, .sentinel, .listed, .data, .pinned, .pinned], laidTests := true, laidLooks := .later }
def CondCoversCardSaid : Prop := Claim7.holds Tryz.pinned (.plain (OpenSpec.ofChange condCoversSpec)) condCoversCard

/-- THE TIED CARD OF 'smockinglaw03.CondChooses'. -/
def condChoosesCard : Claim7 := { stood := { row := condChoosesRow, standIns := [], harness := (true, "3701fa35b9ff7a4da1d0b1a1f2e64c3bcc3a15dc6c70763b18016c7e3e30a701"), looks := true }, kinds := [], alts := [], laidByText := true, laidKinds := [.data, .data, .data, .data, .sentinel, .sentinel, .listed, .data, .pinned, .pinned], laidTests := true, laidLooks := .later }
def CondChoosesCardSaid : Prop := Claim7.holds Tryz.pinned (.plain (OpenSpec.ofChange condChoosesSpec)) condChoosesCard

/-- THE TIED CARD OF 'smockinglaw03.CondPlaces'. -/
def condPlacesCard : Claim7 := { stood := { row := condPlacesRow, standIns := [], harness := (true, "3701fa35b9ff7a4da1d0b1a1f2e64c3bcc3a15dc6c70763b18016c7e3e30a701"), looks := true }, kinds := [], alts := [], laidByText := true, laidKinds := [.data, .data, .data, .data, .sentinel, .sentinel, .listed, .data, .pinned, .pinned], laidTests := true, laidLooks := .later }
def CondPlacesCardSaid : Prop := Claim7.holds Tryz.pinned (.plain (OpenSpec.ofChange condPlacesSpec)) condPlacesCard

/-- THE TIED CARD OF 'smockinglaw03.CondNames'. -/
def condNamesCard : Claim7 := { stood := { row := condNamesRow, standIns := [], harness := (true, "3701fa35b9ff7a4da1d0b1a1f2e64c3bcc3a15dc6c70763b18016c7e3e30a701"), looks := true }, kinds := [], alts := [], laidByText := true, laidKinds := [.data, .data, .data, .data, .sentinel, .sentinel, .listed, .data, .pinned, .pinned], laidTests := true, laidLooks := .later }
def CondNamesCardSaid : Prop := Claim7.holds Tryz.pinned (.plain (OpenSpec.ofChange condNamesSpec)) condNamesCard

/-- THE SECOND FORM's CARD OF 'smockinglaw03.CondLines'. -/
def condLinesUptoCard : Claim7 := { stood := { row := condLinesUptoRow, standIns := [], harness := (true, "3701fa35b9ff7a4da1d0b1a1f2e64c3bcc3a15dc6c70763b18016c7e3e30a701"), looks := true }, kinds := [], alts := [], laidByText := true, laidKinds := [.data, .data, .data, .data, .sentinel, .sentinel, .listed, .data, .pinned, .pinned], laidTests := true, laidLooks := .later }
def CondLinesUptoCardSaid : Prop := Claim7.holds Tryz.pinned (.plain (OpenSpec.upto condLinesSpec)) condLinesUptoCard

/-- THE SECOND FORM's CARD OF 'smockinglaw03.CondViews'. -/
def condViewsUptoCard : Claim7 := { stood := { row := condViewsUptoRow, standIns := [], harness := (true, "3701fa35b9ff7a4da1d0b1a1f2e64c3bcc3a15dc6c70763b18016c7e3e30a701"), looks := true }, kinds := [], alts := [], laidByText := true, laidKinds := [.data, .data, .data, .data, .sentinel, .sentinel, .listed, .data, .pinned, .pinned], laidTests := true, laidLooks := .later }
def CondViewsUptoCardSaid : Prop := Claim7.holds Tryz.pinned (.plain (OpenSpec.upto condViewsSpec)) condViewsUptoCard

/-- THE SECOND FORM's CARD OF 'smockinglaw03.CondEvals'. -/
def condEvalsUptoCard : Claim7 := { stood := { row := condEvalsUptoRow, standIns := [], harness := (true, "3701fa35b9ff7a4da1d0b1a1f2e64c3bcc3a15dc6c70763b18016c7e3e30a701"), looks := true }, kinds := [], alts := [], laidByText := true, laidKinds := [.data, .data, .data, .data, .sentinel, .sentinel, .listed, .data, .pinned, .pinned], laidTests := true, laidLooks := .later }
def CondEvalsUptoCardSaid : Prop := Claim7.holds Tryz.pinned (.plain (OpenSpec.upto condEvalsSpec)) condEvalsUptoCard

/-- THE SECOND FORM's CARD OF 'smockinglaw03.CondCovers'. -/
def condCoversUptoCard : Claim7 := { stood := { row := condCoversUptoRow, standIns := [], harness := (true, "3701fa35b9ff7a4da1d0b1a1f2e64c3bcc3a15dc6c70763b18016c7e3e30a701"), looks := true }, kinds := [], alts := [], laidByText := true, laidKinds := [.data, .data, .data, .data, .sentinel, .sentinel, .listed, .data, .pinned, .pinned], laidTests := true, laidLooks := .later }
def CondCoversUptoCardSaid : Prop := Claim7.holds Tryz.pinned (.plain (OpenSpec.upto condCoversSpec)) condCoversUptoCard

/-- THE SECOND FORM's CARD OF 'smockinglaw03.CondChooses'. -/
def condChoosesUptoCard : Claim7 := { stood := { row := condChoosesUptoRow, standIns := [], harness := (true, "3701fa35b9ff7a4da1d0b1a1f2e64c3bcc3a15dc6c70763b18016c7e3e30a701"), looks := true }, kinds := [], alts := [], laidByText := true, laidKinds := [.data, .data, .data, .data, .sentinel, .sentinel, .listed, .data, .pinned, .pinned], laidTests := true, laidLooks := .later }
def CondChoosesUptoCardSaid : Prop := Claim7.holds Tryz.pinned (.plain (OpenSpec.upto condChoosesSpec)) condChoosesUptoCard

/-- THE SECOND FORM's CARD OF 'smockinglaw03.CondPlaces'. -/
def condPlacesUptoCard : Claim7 := { stood := { row := condPlacesUptoRow, standIns := [], harness := (true, "3701fa35b9ff7a4da1d0b1a1f2e64c3bcc3a15dc6c70763b18016c7e3e30a701"), looks := true }, kinds := [], alts := [], laidByText := true, laidKinds := [.data, .data, .data, .data, .sentinel, .sentinel, .listed, .data, .pinned, .pinned], laidTests := true, laidLooks := .later }
def CondPlacesUptoCardSaid : Prop := Claim7.holds Tryz.pinned (.plain (OpenSpec.upto condPlacesSpec)) condPlacesUptoCard

/-- THE SECOND FORM's CARD OF 'smockinglaw03.CondNames'. -/
def condNamesUptoCard : Claim7 := { stood := { row := condNamesUptoRow, standIns := [], harness := (true, "3701fa35b9ff7a4da1d0b1a1f2e64c3bcc3a15dc6c70763b18016c7e3e30a701"), looks := true }, kinds := [], alts := [], laidByText := true, laidKinds := [.data, .data, .data, .data, .sentinel, .sentinel, .listed, .data, .pinned, .pinned], laidTests := true, laidLooks := .later }
def CondNamesUptoCardSaid : Prop := Claim7.holds Tryz.pinned (.plain (OpenSpec.upto condNamesSpec)) condNamesUptoCard
end Rows
end Go.Proofs.YtjnafjgonoficaaGreatDoor
