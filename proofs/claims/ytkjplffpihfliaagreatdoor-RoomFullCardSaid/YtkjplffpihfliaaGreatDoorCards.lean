/-
  DERIVED. GIVEN WITH THE SEED: THE CARDS: each row of YtkjplffpihfliaaGreatDoorRows.lean that lists a variable, with what it lists TIED to the program's text (the seventh form; the later family's looks); each row that meets fmt, with fmt's text TOLD by the authors' own Lean function (tested against real Go, not proved from fmt's source: count such statements apart). THE CARD IS WHAT COUNTS. Prove the row's statement (the work); the ties are given (YtkjplffpihfliaaGreatDoorTie.lean); close each card by the builder's one call (the guide's Derived/Test/ToyasCard.lean, 'card_holds'). Laid BY PROGRAM, IN A SANDBOX (cutbox-door.mjs). By AI agents, Wed Nov 11 2026. No macro, syntax, notation, axiom, sorry.
-/
import Derived.Test.YtkjplffpihfliaaGreatDoorRows
import GoSem.ClaimSeven
namespace Go.Proofs.YtkjplffpihfliaaGreatDoor
namespace Rows

/-- THE TIED CARD OF 'amnestylaw09.RoomFull'. -/
def roomFullCard : Claim7 := { stood := { row := roomFullRow, standIns := [], harness := (true, "7cb7e8a57cc55f6909a743bd3fdf8fe332dcddbef6dae9f742fed74e6a53d897"), looks := false }, kinds := [], alts := [], laidByText := true, laidKinds := [.data, .pinned], laidTests := true, laidLooks := .later }
def RoomFullCardSaid : Prop := Claim7.holds Tryz.pinned (.plain (OpenSpec.ofChange roomFullSpec)) roomFullCard

/-- THE TIED CARD OF 'amnestylaw09.RoomTreeForgets'. -/
def roomTreeForgetsCard : Claim7 := { stood := { row := roomTreeForgetsRow, standIns := [], harness := (true, "7cb7e8a57cc55f6909a743bd3fdf8fe332dcddbef6dae9f742fed74e6a53d897"), looks := false }, kinds := [], alts := [], laidByText := true, laidKinds := [.data, .pinned], laidTests := true, laidLooks := .later }
def RoomTreeForgetsCardSaid : Prop := Claim7.holds Tryz.pinned (.plain (OpenSpec.ofChange roomTreeForgetsSpec)) roomTreeForgetsCard

/-- THE TIED CARD OF 'amnestylaw09.RoomMoves'. -/
def roomMovesCard : Claim7 := { stood := { row := roomMovesRow, standIns := [], harness := (true, "7cb7e8a57cc55f6909a743bd3fdf8fe332dcddbef6dae9f742fed74e6a53d897"), looks := false }, kinds := [], alts := [], laidByText := true, laidKinds := [.data, .pinned], laidTests := true, laidLooks := .later }
def RoomMovesCardSaid : Prop := Claim7.holds Tryz.pinned (.plain (OpenSpec.ofChange roomMovesSpec)) roomMovesCard

/-- THE TIED CARD OF 'amnestylaw09.RoomNone'. -/
def roomNoneCard : Claim7 := { stood := { row := roomNoneRow, standIns := [], harness := (true, "7cb7e8a57cc55f6909a743bd3fdf8fe332dcddbef6dae9f742fed74e6a53d897"), looks := false }, kinds := [], alts := [], laidByText := true, laidKinds := [.data, .pinned], laidTests := true, laidLooks := .later }
def RoomNoneCardSaid : Prop := Claim7.holds Tryz.pinned (.plain (OpenSpec.ofChange roomNoneSpec)) roomNoneCard

/-- THE TIED CARD OF 'amnestylaw09.RoomTrees'. -/
def roomTreesCard : Claim7 := { stood := { row := roomTreesRow, standIns := [], harness := (true, "7cb7e8a57cc55f6909a743bd3fdf8fe332dcddbef6dae9f742fed74e6a53d897"), looks := false }, kinds := [], alts := [], laidByText := true, laidKinds := [.data, .pinned], laidTests := true, laidLooks := .later }
def RoomTreesCardSaid : Prop := Claim7.holds Tryz.pinned (.plain (OpenSpec.ofChange roomTreesSpec)) roomTreesCard

/-- THE TIED CARD OF 'amnestylaw09.RoomLoads'. -/
def roomLoadsCard : Claim7 := { stood := { row := roomLoadsRow, standIns := [], harness := (true, "7cb7e8a57cc55f6909a743bd3fdf8fe332dcddbef6dae9f742fed74e6a53d897"), looks := false }, kinds := [], alts := [], laidByText := true, laidKinds := [.data, .pinned], laidTests := true, laidLooks := .later }
def RoomLoadsCardSaid : Prop := Claim7.holds Tryz.pinned (.plain (OpenSpec.ofChange roomLoadsSpec)) roomLoadsCard

/-- THE SECOND FORM's CARD OF 'amnestylaw09.RoomFull'. -/
def roomFullUptoCard : Claim7 := { stood := { row := roomFullUptoRow, standIns := [], harness := (true, "7cb7e8a57cc55f6909a743bd3fdf8fe332dcddbef6dae9f742fed74e6a53d897"), looks := false }, kinds := [], alts := [], laidByText := true, laidKinds := [.data, .pinned], laidTests := true, laidLooks := .later }
def RoomFullUptoCardSaid : Prop := Claim7.holds Tryz.pinned (.plain (OpenSpec.upto roomFullSpec)) roomFullUptoCard

/-- THE SECOND FORM's CARD OF 'amnestylaw09.RoomTreeForgets'. -/
def roomTreeForgetsUptoCard : Claim7 := { stood := { row := roomTreeForgetsUptoRow, standIns := [], harness := (true, "7cb7e8a57cc55f6909a743bd3fdf8fe332dcddbef6dae9f742fed74e6a53d897"), looks := false }, kinds := [], alts := [], laidByText := true, laidKinds := [.data, .pinned], laidTests := true, laidLooks := .later }
def RoomTreeForgetsUptoCardSaid : Prop := Claim7.holds Tryz.pinned (.plain (OpenSpec.upto roomTreeForgetsSpec)) roomTreeForgetsUptoCard

/-- THE SECOND FORM's CARD OF 'amnestylaw09.RoomMoves'. -/
def roomMovesUptoCard : Claim7 := { stood := { row := roomMovesUptoRow, standIns := [], harness := (true, "7cb7e8a57cc55f6909a743bd3fdf8fe332dcddbef6dae9f742fed74e6a53d897"), looks := false }, kinds := [], alts := [], laidByText := true, laidKinds := [.data, .pinned], laidTests := true, laidLooks := .later }
def RoomMovesUptoCardSaid : Prop := Claim7.holds Tryz.pinned (.plain (OpenSpec.upto roomMovesSpec)) roomMovesUptoCard

/-- THE SECOND FORM's CARD OF 'amnestylaw09.RoomNone'. -/
def roomNoneUptoCard : Claim7 := { stood := { row := roomNoneUptoRow, standIns := [], harness := (true, "7cb7e8a57cc55f6909a743bd3fdf8fe332dcddbef6dae9f742fed74e6a53d897"), looks := false }, kinds := [], alts := [], laidByText := true, laidKinds := [.data, .pinned], laidTests := true, laidLooks := .later }
def RoomNoneUptoCardSaid : Prop := Claim7.holds Tryz.pinned (.plain (OpenSpec.upto roomNoneSpec)) roomNoneUptoCard

/-- THE SECOND FORM's CARD OF 'amnestylaw09.RoomTrees'. -/
def roomTreesUptoCard : Claim7 := { stood := { row := roomTreesUptoRow, standIns := [], harness := (true, "7cb7e8a57cc55f6909a743bd3fdf8fe332dcddbef6dae9f742fed74e6a53d897"), looks := false }, kinds := [], alts := [], laidByText := true, laidKinds := [.data, .pinned], laidTests := true, laidLooks := .later }
def RoomTreesUptoCardSaid : Prop := Claim7.holds Tryz.pinned (.plain (OpenSpec.upto roomTreesSpec)) roomTreesUptoCard

/-- THE SECOND FORM's CARD OF 'amnestylaw09.RoomLoads'. -/
def roomLoadsUptoCard : Claim7 := { stood := { row := roomLoadsUptoRow, standIns := [], harness := (true, "7cb7e8a57cc55f6909a743bd3fdf8fe332dcddbef6dae9f742fed74e6a53d897"), looks := false }, kinds := [], alts := [], laidByText := true, laidKinds := [.data, .pinned], laidTests := true, laidLooks := .later }
def RoomLoadsUptoCardSaid : Prop := Claim7.holds Tryz.pinned (.plain (OpenSpec.upto roomLoadsSpec)) roomLoadsUptoCard
end Rows
end Go.Proofs.YtkjplffpihfliaaGreatDoor
