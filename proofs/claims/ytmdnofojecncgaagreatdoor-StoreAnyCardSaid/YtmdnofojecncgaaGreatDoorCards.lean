/-
  DERIVED. GIVEN WITH THE SEED: THE CARDS: each row of YtmdnofojecncgaaGreatDoorRows.lean that lists a variable, with what it lists TIED to the program's text (the seventh form; the later family's looks); each row that meets fmt, with fmt's text TOLD by the authors' own Lean function (tested against real Go, not proved from fmt's source: count such statements apart). THE CARD IS WHAT COUNTS. Prove the row's statement (the work); the ties are given (YtmdnofojecncgaaGreatDoorTie.lean); close each card by the builder's one call (the guide's Derived/Test/ToyasCard.lean, 'card_holds'). Laid BY PROGRAM, IN A SANDBOX (cutbox-door.mjs). By AI agents, Wed Nov 11 2026. No macro, syntax, notation, axiom, sorry.
-/
import Derived.Test.YtmdnofojecncgaaGreatDoorRows
import GoSem.ClaimSeven
namespace Go.Proofs.YtmdnofojecncgaaGreatDoor
namespace Rows

/-- THE TIED CARD OF 'loftlaw07.CompactParts'. -/
def compactPartsCard : Claim7 := { stood := { row := compactPartsRow, standIns := [], harness := (true, "e17e88fb53ceb00c77c5211b49d7ad705033f17280b4f54774480e8a65dc793c"), looks := false }, kinds := [], alts := [], laidByText := true, laidKinds := [.data], laidTests := true, laidLooks := .later }
def CompactPartsCardSaid : Prop := Claim7.holds Tryz.pinned (.plain (OpenSpec.ofChange compactPartsSpec)) compactPartsCard

/-- THE TIED CARD OF 'loftlaw15.BnodeBack'. -/
def bnodeBackCard : Claim7 := { stood := { row := bnodeBackRow, standIns := [], harness := (true, "e17e88fb53ceb00c77c5211b49d7ad705033f17280b4f54774480e8a65dc793c"), looks := false }, kinds := [], alts := [], laidByText := true, laidKinds := [.data], laidTests := true, laidLooks := .later }
def BnodeBackCardSaid : Prop := Claim7.holds Tryz.pinned (.plain (OpenSpec.ofChange bnodeBackSpec)) bnodeBackCard

/-- THE TIED CARD OF 'loftlaw07.CompactNoMore'. -/
def compactNoMoreCard : Claim7 := { stood := { row := compactNoMoreRow, standIns := [], harness := (true, "e17e88fb53ceb00c77c5211b49d7ad705033f17280b4f54774480e8a65dc793c"), looks := false }, kinds := [], alts := [], laidByText := true, laidKinds := [.data], laidTests := true, laidLooks := .later }
def CompactNoMoreCardSaid : Prop := Claim7.holds Tryz.pinned (.plain (OpenSpec.ofChange compactNoMoreSpec)) compactNoMoreCard

/-- THE TIED CARD OF 'loftlaw07.CompactAmid'. -/
def compactAmidCard : Claim7 := { stood := { row := compactAmidRow, standIns := [], harness := (true, "e17e88fb53ceb00c77c5211b49d7ad705033f17280b4f54774480e8a65dc793c"), looks := false }, kinds := [], alts := [], laidByText := true, laidKinds := [.data], laidTests := true, laidLooks := .later }
def CompactAmidCardSaid : Prop := Claim7.holds Tryz.pinned (.plain (OpenSpec.ofChange compactAmidSpec)) compactAmidCard

/-- THE TIED CARD OF 'loftlaw06.StoreRaw'. -/
def storeRawCard : Claim7 := { stood := { row := storeRawRow, standIns := [], harness := (true, "e17e88fb53ceb00c77c5211b49d7ad705033f17280b4f54774480e8a65dc793c"), looks := false }, kinds := [], alts := [], laidByText := true, laidKinds := [.data], laidTests := true, laidLooks := .later }
def StoreRawCardSaid : Prop := Claim7.holds Tryz.pinned (.plain (OpenSpec.ofChange storeRawSpec)) storeRawCard

/-- THE TIED CARD OF 'loftlaw06.StoreAny'. -/
def storeAnyCard : Claim7 := { stood := { row := storeAnyRow, standIns := [], harness := (true, "e17e88fb53ceb00c77c5211b49d7ad705033f17280b4f54774480e8a65dc793c"), looks := false }, kinds := [], alts := [], laidByText := true, laidKinds := [.data], laidTests := true, laidLooks := .later }
def StoreAnyCardSaid : Prop := Claim7.holds Tryz.pinned (.plain (OpenSpec.ofChange storeAnySpec)) storeAnyCard

/-- THE TIED CARD OF 'loftlaw07.CompactEnds'. -/
def compactEndsCard : Claim7 := { stood := { row := compactEndsRow, standIns := [], harness := (true, "e17e88fb53ceb00c77c5211b49d7ad705033f17280b4f54774480e8a65dc793c"), looks := false }, kinds := [], alts := [], laidByText := true, laidKinds := [.data], laidTests := true, laidLooks := .later }
def CompactEndsCardSaid : Prop := Claim7.holds Tryz.pinned (.plain (OpenSpec.ofChange compactEndsSpec)) compactEndsCard

/-- THE SECOND FORM's CARD OF 'loftlaw07.CompactParts'. -/
def compactPartsUptoCard : Claim7 := { stood := { row := compactPartsUptoRow, standIns := [], harness := (true, "e17e88fb53ceb00c77c5211b49d7ad705033f17280b4f54774480e8a65dc793c"), looks := false }, kinds := [], alts := [], laidByText := true, laidKinds := [.data], laidTests := true, laidLooks := .later }
def CompactPartsUptoCardSaid : Prop := Claim7.holds Tryz.pinned (.plain (OpenSpec.upto compactPartsSpec)) compactPartsUptoCard

/-- THE SECOND FORM's CARD OF 'loftlaw15.BnodeBack'. -/
def bnodeBackUptoCard : Claim7 := { stood := { row := bnodeBackUptoRow, standIns := [], harness := (true, "e17e88fb53ceb00c77c5211b49d7ad705033f17280b4f54774480e8a65dc793c"), looks := false }, kinds := [], alts := [], laidByText := true, laidKinds := [.data], laidTests := true, laidLooks := .later }
def BnodeBackUptoCardSaid : Prop := Claim7.holds Tryz.pinned (.plain (OpenSpec.upto bnodeBackSpec)) bnodeBackUptoCard

/-- THE SECOND FORM's CARD OF 'loftlaw07.CompactNoMore'. -/
def compactNoMoreUptoCard : Claim7 := { stood := { row := compactNoMoreUptoRow, standIns := [], harness := (true, "e17e88fb53ceb00c77c5211b49d7ad705033f17280b4f54774480e8a65dc793c"), looks := false }, kinds := [], alts := [], laidByText := true, laidKinds := [.data], laidTests := true, laidLooks := .later }
def CompactNoMoreUptoCardSaid : Prop := Claim7.holds Tryz.pinned (.plain (OpenSpec.upto compactNoMoreSpec)) compactNoMoreUptoCard

/-- THE SECOND FORM's CARD OF 'loftlaw07.CompactAmid'. -/
def compactAmidUptoCard : Claim7 := { stood := { row := compactAmidUptoRow, standIns := [], harness := (true, "e17e88fb53ceb00c77c5211b49d7ad705033f17280b4f54774480e8a65dc793c"), looks := false }, kinds := [], alts := [], laidByText := true, laidKinds := [.data], laidTests := true, laidLooks := .later }
def CompactAmidUptoCardSaid : Prop := Claim7.holds Tryz.pinned (.plain (OpenSpec.upto compactAmidSpec)) compactAmidUptoCard

/-- THE SECOND FORM's CARD OF 'loftlaw06.StoreRaw'. -/
def storeRawUptoCard : Claim7 := { stood := { row := storeRawUptoRow, standIns := [], harness := (true, "e17e88fb53ceb00c77c5211b49d7ad705033f17280b4f54774480e8a65dc793c"), looks := false }, kinds := [], alts := [], laidByText := true, laidKinds := [.data], laidTests := true, laidLooks := .later }
def StoreRawUptoCardSaid : Prop := Claim7.holds Tryz.pinned (.plain (OpenSpec.upto storeRawSpec)) storeRawUptoCard

/-- THE SECOND FORM's CARD OF 'loftlaw06.StoreAny'. -/
def storeAnyUptoCard : Claim7 := { stood := { row := storeAnyUptoRow, standIns := [], harness := (true, "e17e88fb53ceb00c77c5211b49d7ad705033f17280b4f54774480e8a65dc793c"), looks := false }, kinds := [], alts := [], laidByText := true, laidKinds := [.data], laidTests := true, laidLooks := .later }
def StoreAnyUptoCardSaid : Prop := Claim7.holds Tryz.pinned (.plain (OpenSpec.upto storeAnySpec)) storeAnyUptoCard

/-- THE SECOND FORM's CARD OF 'loftlaw07.CompactEnds'. -/
def compactEndsUptoCard : Claim7 := { stood := { row := compactEndsUptoRow, standIns := [], harness := (true, "e17e88fb53ceb00c77c5211b49d7ad705033f17280b4f54774480e8a65dc793c"), looks := false }, kinds := [], alts := [], laidByText := true, laidKinds := [.data], laidTests := true, laidLooks := .later }
def CompactEndsUptoCardSaid : Prop := Claim7.holds Tryz.pinned (.plain (OpenSpec.upto compactEndsSpec)) compactEndsUptoCard
end Rows
end Go.Proofs.YtmdnofojecncgaaGreatDoor
