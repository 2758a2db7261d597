/-
  DERIVED. GIVEN WITH THE SEED: THE CARDS: each row of YtpcomekikeoliaaGreatDoorRows.lean that lists a variable, with what it lists TIED to the program's text (the seventh form; the later family's looks); each row that meets fmt, with fmt's text TOLD by the authors' own Lean function (tested against real Go, not proved from fmt's source: count such statements apart). THE CARD IS WHAT COUNTS. Prove the row's statement (the work); the ties are given (YtpcomekikeoliaaGreatDoorTie.lean); close each card by the builder's one call (the guide's Derived/Test/ToyasCard.lean, 'card_holds'). Laid BY PROGRAM, IN A SANDBOX (cutbox-door.mjs). By AI agents, Wed Nov 11 2026. No macro, syntax, notation, axiom, sorry.
-/
import Derived.Test.YtpcomekikeoliaaGreatDoorRows
import GoSem.ClaimSeven
namespace Go.Proofs.YtpcomekikeoliaaGreatDoor
namespace Rows

/-- THE TIED CARD OF 'loftlaw04.HeapPlays'. -/
def heapPlaysCard : Claim7 := { stood := { row := heapPlaysRow, standIns := [], harness := (true, "74ceb6189ff8e6dcdcd5930de1779b1962bb79bc0bef2f88df7012029f890ad2"), looks := false }, kinds := [], alts := [], laidByText := true, laidKinds := [.data], laidTests := true, laidLooks := .later }
def HeapPlaysCardSaid : Prop := Claim7.holds Tryz.pinned (.plain (OpenSpec.ofChange heapPlaysSpec)) heapPlaysCard

/-- THE TIED CARD OF 'loftlaw15.BnodeBack'. -/
def bnodeBackCard : Claim7 := { stood := { row := bnodeBackRow, standIns := [], harness := (true, "74ceb6189ff8e6dcdcd5930de1779b1962bb79bc0bef2f88df7012029f890ad2"), looks := false }, kinds := [], alts := [], laidByText := true, laidKinds := [.data], laidTests := true, laidLooks := .later }
def BnodeBackCardSaid : Prop := Claim7.holds Tryz.pinned (.plain (OpenSpec.ofChange bnodeBackSpec)) bnodeBackCard

/-- THE SECOND FORM's CARD OF 'loftlaw04.HeapPlays'. -/
def heapPlaysUptoCard : Claim7 := { stood := { row := heapPlaysUptoRow, standIns := [], harness := (true, "74ceb6189ff8e6dcdcd5930de1779b1962bb79bc0bef2f88df7012029f890ad2"), looks := false }, kinds := [], alts := [], laidByText := true, laidKinds := [.data], laidTests := true, laidLooks := .later }
def HeapPlaysUptoCardSaid : Prop := Claim7.holds Tryz.pinned (.plain (OpenSpec.upto heapPlaysSpec)) heapPlaysUptoCard

/-- THE SECOND FORM's CARD OF 'loftlaw15.BnodeBack'. -/
def bnodeBackUptoCard : Claim7 := { stood := { row := bnodeBackUptoRow, standIns := [], harness := (true, "74ceb6189ff8e6dcdcd5930de1779b1962bb79bc0bef2f88df7012029f890ad2"), looks := false }, kinds := [], alts := [], laidByText := true, laidKinds := [.data], laidTests := true, laidLooks := .later }
def BnodeBackUptoCardSaid : Prop := Claim7.holds Tryz.pinned (.plain (OpenSpec.upto bnodeBackSpec)) bnodeBackUptoCard
end Rows
end Go.Proofs.YtpcomekikeoliaaGreatDoor
