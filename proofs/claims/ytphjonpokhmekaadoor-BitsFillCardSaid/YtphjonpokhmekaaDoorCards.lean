/-
  DERIVED. GIVEN WITH THE SEED: THE CARDS: each row of YtphjonpokhmekaaDoorRows.lean that lists a variable, with what it lists TIED to the program's text (the seventh form; the later family's looks); each row that meets fmt, with fmt's text TOLD by the authors' own Lean function (tested against real Go, not proved from fmt's source: count such statements apart). THE CARD IS WHAT COUNTS. Prove the row's statement (the work); the ties are given (YtphjonpokhmekaaDoorTie.lean); close each card by the builder's one call (the guide's Derived/Test/ToyasCard.lean, 'card_holds'). Laid BY PROGRAM, IN A SANDBOX (cutbox-door.mjs). By AI agents, Wed Nov 11 2026. No macro, syntax, notation, axiom, sorry.
-/
import Derived.Test.YtphjonpokhmekaaDoorRows
import GoSem.ClaimSeven
namespace Go.Proofs.YtphjonpokhmekaaDoor
namespace Rows

/-- THE TIED CARD OF 'loftlaw02.BitsOne'. -/
def bitsOneCard : Claim7 := { stood := { row := bitsOneRow, standIns := [], harness := (true, "d1c4edd62e64e0719740d50be3e9c13c0803a78e0dcd5ae40a4a8f2e95115b5b"), looks := false }, kinds := [], alts := [], laidByText := true, laidKinds := [.data], laidTests := true, laidLooks := .later }
def BitsOneCardSaid : Prop := Claim7.holds Tryd.pinned (.plain (OpenSpec.ofChange bitsOneSpec)) bitsOneCard

/-- THE TIED CARD OF 'loftlaw02.BitsOther'. -/
def bitsOtherCard : Claim7 := { stood := { row := bitsOtherRow, standIns := [], harness := (true, "d1c4edd62e64e0719740d50be3e9c13c0803a78e0dcd5ae40a4a8f2e95115b5b"), looks := false }, kinds := [], alts := [], laidByText := true, laidKinds := [.data], laidTests := true, laidLooks := .later }
def BitsOtherCardSaid : Prop := Claim7.holds Tryd.pinned (.plain (OpenSpec.ofChange bitsOtherSpec)) bitsOtherCard

/-- THE TIED CARD OF 'loftlaw02.BitsAll'. -/
def bitsAllCard : Claim7 := { stood := { row := bitsAllRow, standIns := [], harness := (true, "d1c4edd62e64e0719740d50be3e9c13c0803a78e0dcd5ae40a4a8f2e95115b5b"), looks := false }, kinds := [], alts := [], laidByText := true, laidKinds := [.data], laidTests := true, laidLooks := .later }
def BitsAllCardSaid : Prop := Claim7.holds Tryd.pinned (.plain (OpenSpec.ofChange bitsAllSpec)) bitsAllCard

/-- THE TIED CARD OF 'loftlaw02.BitsNear'. -/
def bitsNearCard : Claim7 := { stood := { row := bitsNearRow, standIns := [], harness := (true, "d1c4edd62e64e0719740d50be3e9c13c0803a78e0dcd5ae40a4a8f2e95115b5b"), looks := false }, kinds := [], alts := [], laidByText := true, laidKinds := [.data], laidTests := true, laidLooks := .later }
def BitsNearCardSaid : Prop := Claim7.holds Tryd.pinned (.plain (OpenSpec.ofChange bitsNearSpec)) bitsNearCard

/-- THE TIED CARD OF 'loftlaw02.BitsFill'. -/
def bitsFillCard : Claim7 := { stood := { row := bitsFillRow, standIns := [], harness := (true, "d1c4edd62e64e0719740d50be3e9c13c0803a78e0dcd5ae40a4a8f2e95115b5b"), looks := false }, kinds := [], alts := [], laidByText := true, laidKinds := [.data], laidTests := true, laidLooks := .later }
def BitsFillCardSaid : Prop := Claim7.holds Tryd.pinned (.plain (OpenSpec.ofChange bitsFillSpec)) bitsFillCard

/-- THE TIED CARD OF 'loftlaw02.BitsTurn'. -/
def bitsTurnCard : Claim7 := { stood := { row := bitsTurnRow, standIns := [], harness := (true, "d1c4edd62e64e0719740d50be3e9c13c0803a78e0dcd5ae40a4a8f2e95115b5b"), looks := false }, kinds := [], alts := [], laidByText := true, laidKinds := [.data], laidTests := true, laidLooks := .later }
def BitsTurnCardSaid : Prop := Claim7.holds Tryd.pinned (.plain (OpenSpec.ofChange bitsTurnSpec)) bitsTurnCard

/-- THE SECOND FORM's CARD OF 'loftlaw02.BitsOne'. -/
def bitsOneUptoCard : Claim7 := { stood := { row := bitsOneUptoRow, standIns := [], harness := (true, "d1c4edd62e64e0719740d50be3e9c13c0803a78e0dcd5ae40a4a8f2e95115b5b"), looks := false }, kinds := [], alts := [], laidByText := true, laidKinds := [.data], laidTests := true, laidLooks := .later }
def BitsOneUptoCardSaid : Prop := Claim7.holds Tryd.pinned (.plain (OpenSpec.upto bitsOneSpec)) bitsOneUptoCard

/-- THE SECOND FORM's CARD OF 'loftlaw02.BitsOther'. -/
def bitsOtherUptoCard : Claim7 := { stood := { row := bitsOtherUptoRow, standIns := [], harness := (true, "d1c4edd62e64e0719740d50be3e9c13c0803a78e0dcd5ae40a4a8f2e95115b5b"), looks := false }, kinds := [], alts := [], laidByText := true, laidKinds := [.data], laidTests := true, laidLooks := .later }
def BitsOtherUptoCardSaid : Prop := Claim7.holds Tryd.pinned (.plain (OpenSpec.upto bitsOtherSpec)) bitsOtherUptoCard

/-- THE SECOND FORM's CARD OF 'loftlaw02.BitsAll'. -/
def bitsAllUptoCard : Claim7 := { stood := { row := bitsAllUptoRow, standIns := [], harness := (true, "d1c4edd62e64e0719740d50be3e9c13c0803a78e0dcd5ae40a4a8f2e95115b5b"), looks := false }, kinds := [], alts := [], laidByText := true, laidKinds := [.data], laidTests := true, laidLooks := .later }
def BitsAllUptoCardSaid : Prop := Claim7.holds Tryd.pinned (.plain (OpenSpec.upto bitsAllSpec)) bitsAllUptoCard

/-- THE SECOND FORM's CARD OF 'loftlaw02.BitsNear'. -/
def bitsNearUptoCard : Claim7 := { stood := { row := bitsNearUptoRow, standIns := [], harness := (true, "d1c4edd62e64e0719740d50be3e9c13c0803a78e0dcd5ae40a4a8f2e95115b5b"), looks := false }, kinds := [], alts := [], laidByText := true, laidKinds := [.data], laidTests := true, laidLooks := .later }
def BitsNearUptoCardSaid : Prop := Claim7.holds Tryd.pinned (.plain (OpenSpec.upto bitsNearSpec)) bitsNearUptoCard

/-- THE SECOND FORM's CARD OF 'loftlaw02.BitsFill'. -/
def bitsFillUptoCard : Claim7 := { stood := { row := bitsFillUptoRow, standIns := [], harness := (true, "d1c4edd62e64e0719740d50be3e9c13c0803a78e0dcd5ae40a4a8f2e95115b5b"), looks := false }, kinds := [], alts := [], laidByText := true, laidKinds := [.data], laidTests := true, laidLooks := .later }
def BitsFillUptoCardSaid : Prop := Claim7.holds Tryd.pinned (.plain (OpenSpec.upto bitsFillSpec)) bitsFillUptoCard

/-- THE SECOND FORM's CARD OF 'loftlaw02.BitsTurn'. -/
def bitsTurnUptoCard : Claim7 := { stood := { row := bitsTurnUptoRow, standIns := [], harness := (true, "d1c4edd62e64e0719740d50be3e9c13c0803a78e0dcd5ae40a4a8f2e95115b5b"), looks := false }, kinds := [], alts := [], laidByText := true, laidKinds := [.data], laidTests := true, laidLooks := .later }
def BitsTurnUptoCardSaid : Prop := Claim7.holds Tryd.pinned (.plain (OpenSpec.upto bitsTurnSpec)) bitsTurnUptoCard
end Rows
end Go.Proofs.YtphjonpokhmekaaDoor
