/-
  DERIVED. GIVEN WITH THE SEED: THE CARDS: each row of YtfmcddomciicdaaDoorRows.lean that lists a variable, with what it lists TIED to the program's text (the seventh form; the later family's looks); each row that meets fmt, with fmt's text TOLD by the authors' own Lean function (tested against real Go, not proved from fmt's source: count such statements apart). THE CARD IS WHAT COUNTS. Prove the row's statement (the work); the ties are given (YtfmcddomciicdaaDoorTie.lean); close each card by the builder's one call (the guide's Derived/Test/ToyasCard.lean, 'card_holds'). Laid BY PROGRAM, IN A SANDBOX (cutbox-door.mjs). By AI agents, Wed Nov 11 2026. No macro, syntax, notation, axiom, sorry.
-/
import Derived.Test.YtfmcddomciicdaaDoorRows
import GoSem.ClaimSeven
namespace Go.Proofs.YtfmcddomciicdaaDoor
namespace Rows

/-- THE TIED CARD OF 'loftlaw06.StoreFull'. -/
def storeFullCard : Claim7 := { stood := { row := storeFullRow, standIns := [], harness := (true, "39942f78c66198349f7be667ee1742b02008d047bc2ce0d1fad87736add80ff9"), looks := false }, kinds := [], alts := [], laidByText := true, laidKinds := [.data], laidTests := true, laidLooks := .later }
def StoreFullCardSaid : Prop := Claim7.holds Tryd.pinned (.plain (OpenSpec.ofChange storeFullSpec)) storeFullCard

/-- THE TIED CARD OF 'loftlaw06.StoreCosts'. -/
def storeCostsCard : Claim7 := { stood := { row := storeCostsRow, standIns := [], harness := (true, "39942f78c66198349f7be667ee1742b02008d047bc2ce0d1fad87736add80ff9"), looks := false }, kinds := [], alts := [], laidByText := true, laidKinds := [.data], laidTests := true, laidLooks := .later }
def StoreCostsCardSaid : Prop := Claim7.holds Tryd.pinned (.plain (OpenSpec.ofChange storeCostsSpec)) storeCostsCard

/-- THE TIED CARD OF 'loftlaw06.StoreApart'. -/
def storeApartCard : Claim7 := { stood := { row := storeApartRow, standIns := [], harness := (true, "39942f78c66198349f7be667ee1742b02008d047bc2ce0d1fad87736add80ff9"), looks := false }, kinds := [], alts := [], laidByText := true, laidKinds := [.data], laidTests := true, laidLooks := .later }
def StoreApartCardSaid : Prop := Claim7.holds Tryd.pinned (.plain (OpenSpec.ofChange storeApartSpec)) storeApartCard

/-- THE TIED CARD OF 'loftlaw10.NodeWords'. -/
def nodeWordsCard : Claim7 := { stood := { row := nodeWordsRow, standIns := [], harness := (true, "39942f78c66198349f7be667ee1742b02008d047bc2ce0d1fad87736add80ff9"), looks := false }, kinds := [], alts := [], laidByText := true, laidKinds := [.data], laidTests := true, laidLooks := .later }
def NodeWordsCardSaid : Prop := Claim7.holds Tryd.pinned (.plain (OpenSpec.ofChange nodeWordsSpec)) nodeWordsCard

/-- THE TIED CARD OF 'loftlaw10.NodeNone'. -/
def nodeNoneCard : Claim7 := { stood := { row := nodeNoneRow, standIns := [], harness := (true, "39942f78c66198349f7be667ee1742b02008d047bc2ce0d1fad87736add80ff9"), looks := false }, kinds := [], alts := [], laidByText := true, laidKinds := [.data], laidTests := true, laidLooks := .later }
def NodeNoneCardSaid : Prop := Claim7.holds Tryd.pinned (.plain (OpenSpec.ofChange nodeNoneSpec)) nodeNoneCard

/-- THE TIED CARD OF 'loftlaw10.NodeRoom'. -/
def nodeRoomCard : Claim7 := { stood := { row := nodeRoomRow, standIns := [], harness := (true, "39942f78c66198349f7be667ee1742b02008d047bc2ce0d1fad87736add80ff9"), looks := false }, kinds := [], alts := [], laidByText := true, laidKinds := [.data], laidTests := true, laidLooks := .later }
def NodeRoomCardSaid : Prop := Claim7.holds Tryd.pinned (.plain (OpenSpec.ofChange nodeRoomSpec)) nodeRoomCard

/-- THE TIED CARD OF 'loftlaw09.BlobSame'. -/
def blobSameCard : Claim7 := { stood := { row := blobSameRow, standIns := [], harness := (true, "39942f78c66198349f7be667ee1742b02008d047bc2ce0d1fad87736add80ff9"), looks := false }, kinds := [], alts := [], laidByText := true, laidKinds := [.data], laidTests := true, laidLooks := .later }
def BlobSameCardSaid : Prop := Claim7.holds Tryd.pinned (.plain (OpenSpec.ofChange blobSameSpec)) blobSameCard

/-- THE TIED CARD OF 'loftlaw09.BlobRoom'. -/
def blobRoomCard : Claim7 := { stood := { row := blobRoomRow, standIns := [], harness := (true, "39942f78c66198349f7be667ee1742b02008d047bc2ce0d1fad87736add80ff9"), looks := false }, kinds := [], alts := [], laidByText := true, laidKinds := [.data], laidTests := true, laidLooks := .later }
def BlobRoomCardSaid : Prop := Claim7.holds Tryd.pinned (.plain (OpenSpec.ofChange blobRoomSpec)) blobRoomCard

/-- THE TIED CARD OF 'loftlaw15.BnodeRoom'. -/
def bnodeRoomCard : Claim7 := { stood := { row := bnodeRoomRow, standIns := [], harness := (true, "39942f78c66198349f7be667ee1742b02008d047bc2ce0d1fad87736add80ff9"), looks := false }, kinds := [], alts := [], laidByText := true, laidKinds := [.data], laidTests := true, laidLooks := .later }
def BnodeRoomCardSaid : Prop := Claim7.holds Tryd.pinned (.plain (OpenSpec.ofChange bnodeRoomSpec)) bnodeRoomCard

/-- THE SECOND FORM's CARD OF 'loftlaw06.StoreFull'. -/
def storeFullUptoCard : Claim7 := { stood := { row := storeFullUptoRow, standIns := [], harness := (true, "39942f78c66198349f7be667ee1742b02008d047bc2ce0d1fad87736add80ff9"), looks := false }, kinds := [], alts := [], laidByText := true, laidKinds := [.data], laidTests := true, laidLooks := .later }
def StoreFullUptoCardSaid : Prop := Claim7.holds Tryd.pinned (.plain (OpenSpec.upto storeFullSpec)) storeFullUptoCard

/-- THE SECOND FORM's CARD OF 'loftlaw06.StoreCosts'. -/
def storeCostsUptoCard : Claim7 := { stood := { row := storeCostsUptoRow, standIns := [], harness := (true, "39942f78c66198349f7be667ee1742b02008d047bc2ce0d1fad87736add80ff9"), looks := false }, kinds := [], alts := [], laidByText := true, laidKinds := [.data], laidTests := true, laidLooks := .later }
def StoreCostsUptoCardSaid : Prop := Claim7.holds Tryd.pinned (.plain (OpenSpec.upto storeCostsSpec)) storeCostsUptoCard

/-- THE SECOND FORM's CARD OF 'loftlaw06.StoreApart'. -/
def storeApartUptoCard : Claim7 := { stood := { row := storeApartUptoRow, standIns := [], harness := (true, "39942f78c66198349f7be667ee1742b02008d047bc2ce0d1fad87736add80ff9"), looks := false }, kinds := [], alts := [], laidByText := true, laidKinds := [.data], laidTests := true, laidLooks := .later }
def StoreApartUptoCardSaid : Prop := Claim7.holds Tryd.pinned (.plain (OpenSpec.upto storeApartSpec)) storeApartUptoCard

/-- THE SECOND FORM's CARD OF 'loftlaw10.NodeWords'. -/
def nodeWordsUptoCard : Claim7 := { stood := { row := nodeWordsUptoRow, standIns := [], harness := (true, "39942f78c66198349f7be667ee1742b02008d047bc2ce0d1fad87736add80ff9"), looks := false }, kinds := [], alts := [], laidByText := true, laidKinds := [.data], laidTests := true, laidLooks := .later }
def NodeWordsUptoCardSaid : Prop := Claim7.holds Tryd.pinned (.plain (OpenSpec.upto nodeWordsSpec)) nodeWordsUptoCard

/-- THE SECOND FORM's CARD OF 'loftlaw10.NodeNone'. -/
def nodeNoneUptoCard : Claim7 := { stood := { row := nodeNoneUptoRow, standIns := [], harness := (true, "39942f78c66198349f7be667ee1742b02008d047bc2ce0d1fad87736add80ff9"), looks := false }, kinds := [], alts := [], laidByText := true, laidKinds := [.data], laidTests := true, laidLooks := .later }
def NodeNoneUptoCardSaid : Prop := Claim7.holds Tryd.pinned (.plain (OpenSpec.upto nodeNoneSpec)) nodeNoneUptoCard

/-- THE SECOND FORM's CARD OF 'loftlaw10.NodeRoom'. -/
def nodeRoomUptoCard : Claim7 := { stood := { row := nodeRoomUptoRow, standIns := [], harness := (true, "39942f78c66198349f7be667ee1742b02008d047bc2ce0d1fad87736add80ff9"), looks := false }, kinds := [], alts := [], laidByText := true, laidKinds := [.data], laidTests := true, laidLooks := .later }
def NodeRoomUptoCardSaid : Prop := Claim7.holds Tryd.pinned (.plain (OpenSpec.upto nodeRoomSpec)) nodeRoomUptoCard

/-- THE SECOND FORM's CARD OF 'loftlaw09.BlobSame'. -/
def blobSameUptoCard : Claim7 := { stood := { row := blobSameUptoRow, standIns := [], harness := (true, "39942f78c66198349f7be667ee1742b02008d047bc2ce0d1fad87736add80ff9"), looks := false }, kinds := [], alts := [], laidByText := true, laidKinds := [.data], laidTests := true, laidLooks := .later }
def BlobSameUptoCardSaid : Prop := Claim7.holds Tryd.pinned (.plain (OpenSpec.upto blobSameSpec)) blobSameUptoCard

/-- THE SECOND FORM's CARD OF 'loftlaw09.BlobRoom'. -/
def blobRoomUptoCard : Claim7 := { stood := { row := blobRoomUptoRow, standIns := [], harness := (true, "39942f78c66198349f7be667ee1742b02008d047bc2ce0d1fad87736add80ff9"), looks := false }, kinds := [], alts := [], laidByText := true, laidKinds := [.data], laidTests := true, laidLooks := .later }
def BlobRoomUptoCardSaid : Prop := Claim7.holds Tryd.pinned (.plain (OpenSpec.upto blobRoomSpec)) blobRoomUptoCard

/-- THE SECOND FORM's CARD OF 'loftlaw15.BnodeRoom'. -/
def bnodeRoomUptoCard : Claim7 := { stood := { row := bnodeRoomUptoRow, standIns := [], harness := (true, "39942f78c66198349f7be667ee1742b02008d047bc2ce0d1fad87736add80ff9"), looks := false }, kinds := [], alts := [], laidByText := true, laidKinds := [.data], laidTests := true, laidLooks := .later }
def BnodeRoomUptoCardSaid : Prop := Claim7.holds Tryd.pinned (.plain (OpenSpec.upto bnodeRoomSpec)) bnodeRoomUptoCard
end Rows
end Go.Proofs.YtfmcddomciicdaaDoor
