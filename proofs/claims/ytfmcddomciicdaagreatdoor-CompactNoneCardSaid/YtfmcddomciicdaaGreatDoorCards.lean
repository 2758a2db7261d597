/-
  DERIVED. GIVEN WITH THE SEED: THE CARDS: each row of YtfmcddomciicdaaGreatDoorRows.lean that lists a variable, with what it lists TIED to the program's text (the seventh form; the later family's looks); each row that meets fmt, with fmt's text TOLD by the authors' own Lean function (tested against real Go, not proved from fmt's source: count such statements apart). THE CARD IS WHAT COUNTS. Prove the row's statement (the work); the ties are given (YtfmcddomciicdaaGreatDoorTie.lean); close each card by the builder's one call (the guide's Derived/Test/ToyasCard.lean, 'card_holds'). Laid BY PROGRAM, IN A SANDBOX (cutbox-door.mjs). By AI agents, Wed Nov 11 2026. No macro, syntax, notation, axiom, sorry.
-/
import Derived.Test.YtfmcddomciicdaaGreatDoorRows
import GoSem.ClaimSeven
namespace Go.Proofs.YtfmcddomciicdaaGreatDoor
namespace Rows

/-- THE TIED CARD OF 'loftlaw06.StoreRaw'. -/
def storeRawCard : Claim7 := { stood := { row := storeRawRow, standIns := [], harness := (true, "2e3807d66451ad26c2a58d8d2c745e54c2806ef29a99f44802fc754e6526e751"), looks := false }, kinds := [], alts := [], laidByText := true, laidKinds := [.data], laidTests := true, laidLooks := .later }
def StoreRawCardSaid : Prop := Claim7.holds Tryz.pinned (.plain (OpenSpec.ofChange storeRawSpec)) storeRawCard

/-- THE TIED CARD OF 'loftlaw06.StoreNone'. -/
def storeNoneCard : Claim7 := { stood := { row := storeNoneRow, standIns := [], harness := (true, "2e3807d66451ad26c2a58d8d2c745e54c2806ef29a99f44802fc754e6526e751"), looks := false }, kinds := [], alts := [], laidByText := true, laidKinds := [.data], laidTests := true, laidLooks := .later }
def StoreNoneCardSaid : Prop := Claim7.holds Tryz.pinned (.plain (OpenSpec.ofChange storeNoneSpec)) storeNoneCard

/-- THE TIED CARD OF 'loftlaw06.StoreAny'. -/
def storeAnyCard : Claim7 := { stood := { row := storeAnyRow, standIns := [], harness := (true, "2e3807d66451ad26c2a58d8d2c745e54c2806ef29a99f44802fc754e6526e751"), looks := false }, kinds := [], alts := [], laidByText := true, laidKinds := [.data], laidTests := true, laidLooks := .later }
def StoreAnyCardSaid : Prop := Claim7.holds Tryz.pinned (.plain (OpenSpec.ofChange storeAnySpec)) storeAnyCard

/-- THE TIED CARD OF 'loftlaw07.CompactNone'. -/
def compactNoneCard : Claim7 := { stood := { row := compactNoneRow, standIns := [], harness := (true, "2e3807d66451ad26c2a58d8d2c745e54c2806ef29a99f44802fc754e6526e751"), looks := false }, kinds := [], alts := [], laidByText := true, laidKinds := [.data], laidTests := true, laidLooks := .later }
def CompactNoneCardSaid : Prop := Claim7.holds Tryz.pinned (.plain (OpenSpec.ofChange compactNoneSpec)) compactNoneCard

/-- THE TIED CARD OF 'loftlaw07.CompactParts'. -/
def compactPartsCard : Claim7 := { stood := { row := compactPartsRow, standIns := [], harness := (true, "2e3807d66451ad26c2a58d8d2c745e54c2806ef29a99f44802fc754e6526e751"), looks := false }, kinds := [], alts := [], laidByText := true, laidKinds := [.data], laidTests := true, laidLooks := .later }
def CompactPartsCardSaid : Prop := Claim7.holds Tryz.pinned (.plain (OpenSpec.ofChange compactPartsSpec)) compactPartsCard

/-- THE TIED CARD OF 'loftlaw07.CompactNoMore'. -/
def compactNoMoreCard : Claim7 := { stood := { row := compactNoMoreRow, standIns := [], harness := (true, "2e3807d66451ad26c2a58d8d2c745e54c2806ef29a99f44802fc754e6526e751"), looks := false }, kinds := [], alts := [], laidByText := true, laidKinds := [.data], laidTests := true, laidLooks := .later }
def CompactNoMoreCardSaid : Prop := Claim7.holds Tryz.pinned (.plain (OpenSpec.ofChange compactNoMoreSpec)) compactNoMoreCard

/-- THE TIED CARD OF 'loftlaw07.CompactAmid'. -/
def compactAmidCard : Claim7 := { stood := { row := compactAmidRow, standIns := [], harness := (true, "2e3807d66451ad26c2a58d8d2c745e54c2806ef29a99f44802fc754e6526e751"), looks := false }, kinds := [], alts := [], laidByText := true, laidKinds := [.data], laidTests := true, laidLooks := .later }
def CompactAmidCardSaid : Prop := Claim7.holds Tryz.pinned (.plain (OpenSpec.ofChange compactAmidSpec)) compactAmidCard

/-- THE TIED CARD OF 'loftlaw07.CompactEnds'. -/
def compactEndsCard : Claim7 := { stood := { row := compactEndsRow, standIns := [], harness := (true, "2e3807d66451ad26c2a58d8d2c745e54c2806ef29a99f44802fc754e6526e751"), looks := false }, kinds := [], alts := [], laidByText := true, laidKinds := [.data], laidTests := true, laidLooks := .later }
def CompactEndsCardSaid : Prop := Claim7.holds Tryz.pinned (.plain (OpenSpec.ofChange compactEndsSpec)) compactEndsCard

/-- THE TIED CARD OF 'loftlaw10.NodeBack'. -/
def nodeBackCard : Claim7 := { stood := { row := nodeBackRow, standIns := [], harness := (true, "2e3807d66451ad26c2a58d8d2c745e54c2806ef29a99f44802fc754e6526e751"), looks := false }, kinds := [], alts := [], laidByText := true, laidKinds := [.data], laidTests := true, laidLooks := .later }
def NodeBackCardSaid : Prop := Claim7.holds Tryz.pinned (.plain (OpenSpec.ofChange nodeBackSpec)) nodeBackCard

/-- THE TIED CARD OF 'loftlaw15.BnodeWords'. -/
def bnodeWordsCard : Claim7 := { stood := { row := bnodeWordsRow, standIns := [], harness := (true, "2e3807d66451ad26c2a58d8d2c745e54c2806ef29a99f44802fc754e6526e751"), looks := false }, kinds := [], alts := [], laidByText := true, laidKinds := [.data], laidTests := true, laidLooks := .later }
def BnodeWordsCardSaid : Prop := Claim7.holds Tryz.pinned (.plain (OpenSpec.ofChange bnodeWordsSpec)) bnodeWordsCard

/-- THE TIED CARD OF 'loftlaw15.BnodeSame'. -/
def bnodeSameCard : Claim7 := { stood := { row := bnodeSameRow, standIns := [], harness := (true, "2e3807d66451ad26c2a58d8d2c745e54c2806ef29a99f44802fc754e6526e751"), looks := false }, kinds := [], alts := [], laidByText := true, laidKinds := [.data], laidTests := true, laidLooks := .later }
def BnodeSameCardSaid : Prop := Claim7.holds Tryz.pinned (.plain (OpenSpec.ofChange bnodeSameSpec)) bnodeSameCard

/-- THE TIED CARD OF 'loftlaw09.BlobCost'. -/
def blobCostCard : Claim7 := { stood := { row := blobCostRow, standIns := [], harness := (true, "2e3807d66451ad26c2a58d8d2c745e54c2806ef29a99f44802fc754e6526e751"), looks := false }, kinds := [], alts := [], laidByText := true, laidKinds := [.data], laidTests := true, laidLooks := .later }
def BlobCostCardSaid : Prop := Claim7.holds Tryz.pinned (.plain (OpenSpec.ofChange blobCostSpec)) blobCostCard

/-- THE TIED CARD OF 'loftlaw09.BlobOther'. -/
def blobOtherCard : Claim7 := { stood := { row := blobOtherRow, standIns := [], harness := (true, "2e3807d66451ad26c2a58d8d2c745e54c2806ef29a99f44802fc754e6526e751"), looks := false }, kinds := [], alts := [], laidByText := true, laidKinds := [.data], laidTests := true, laidLooks := .later }
def BlobOtherCardSaid : Prop := Claim7.holds Tryz.pinned (.plain (OpenSpec.ofChange blobOtherSpec)) blobOtherCard

/-- THE TIED CARD OF 'loftlaw15.BnodeNone'. -/
def bnodeNoneCard : Claim7 := { stood := { row := bnodeNoneRow, standIns := [], harness := (true, "2e3807d66451ad26c2a58d8d2c745e54c2806ef29a99f44802fc754e6526e751"), looks := false }, kinds := [], alts := [], laidByText := true, laidKinds := [.data], laidTests := true, laidLooks := .later }
def BnodeNoneCardSaid : Prop := Claim7.holds Tryz.pinned (.plain (OpenSpec.ofChange bnodeNoneSpec)) bnodeNoneCard

/-- THE TIED CARD OF 'loftlaw15.BnodeBack'. -/
def bnodeBackCard : Claim7 := { stood := { row := bnodeBackRow, standIns := [], harness := (true, "2e3807d66451ad26c2a58d8d2c745e54c2806ef29a99f44802fc754e6526e751"), looks := false }, kinds := [], alts := [], laidByText := true, laidKinds := [.data], laidTests := true, laidLooks := .later }
def BnodeBackCardSaid : Prop := Claim7.holds Tryz.pinned (.plain (OpenSpec.ofChange bnodeBackSpec)) bnodeBackCard

/-- THE TIED CARD OF 'loftlaw09.BlobBack'. -/
def blobBackCard : Claim7 := { stood := { row := blobBackRow, standIns := [], harness := (true, "2e3807d66451ad26c2a58d8d2c745e54c2806ef29a99f44802fc754e6526e751"), looks := false }, kinds := [], alts := [], laidByText := true, laidKinds := [.data], laidTests := true, laidLooks := .later }
def BlobBackCardSaid : Prop := Claim7.holds Tryz.pinned (.plain (OpenSpec.ofChange blobBackSpec)) blobBackCard

/-- THE SECOND FORM's CARD OF 'loftlaw06.StoreRaw'. -/
def storeRawUptoCard : Claim7 := { stood := { row := storeRawUptoRow, standIns := [], harness := (true, "2e3807d66451ad26c2a58d8d2c745e54c2806ef29a99f44802fc754e6526e751"), looks := false }, kinds := [], alts := [], laidByText := true, laidKinds := [.data], laidTests := true, laidLooks := .later }
def StoreRawUptoCardSaid : Prop := Claim7.holds Tryz.pinned (.plain (OpenSpec.upto storeRawSpec)) storeRawUptoCard

/-- THE SECOND FORM's CARD OF 'loftlaw06.StoreNone'. -/
def storeNoneUptoCard : Claim7 := { stood := { row := storeNoneUptoRow, standIns := [], harness := (true, "2e3807d66451ad26c2a58d8d2c745e54c2806ef29a99f44802fc754e6526e751"), looks := false }, kinds := [], alts := [], laidByText := true, laidKinds := [.data], laidTests := true, laidLooks := .later }
def StoreNoneUptoCardSaid : Prop := Claim7.holds Tryz.pinned (.plain (OpenSpec.upto storeNoneSpec)) storeNoneUptoCard

/-- THE SECOND FORM's CARD OF 'loftlaw06.StoreAny'. -/
def storeAnyUptoCard : Claim7 := { stood := { row := storeAnyUptoRow, standIns := [], harness := (true, "2e3807d66451ad26c2a58d8d2c745e54c2806ef29a99f44802fc754e6526e751"), looks := false }, kinds := [], alts := [], laidByText := true, laidKinds := [.data], laidTests := true, laidLooks := .later }
def StoreAnyUptoCardSaid : Prop := Claim7.holds Tryz.pinned (.plain (OpenSpec.upto storeAnySpec)) storeAnyUptoCard

/-- THE SECOND FORM's CARD OF 'loftlaw07.CompactNone'. -/
def compactNoneUptoCard : Claim7 := { stood := { row := compactNoneUptoRow, standIns := [], harness := (true, "2e3807d66451ad26c2a58d8d2c745e54c2806ef29a99f44802fc754e6526e751"), looks := false }, kinds := [], alts := [], laidByText := true, laidKinds := [.data], laidTests := true, laidLooks := .later }
def CompactNoneUptoCardSaid : Prop := Claim7.holds Tryz.pinned (.plain (OpenSpec.upto compactNoneSpec)) compactNoneUptoCard

/-- THE SECOND FORM's CARD OF 'loftlaw07.CompactParts'. -/
def compactPartsUptoCard : Claim7 := { stood := { row := compactPartsUptoRow, standIns := [], harness := (true, "2e3807d66451ad26c2a58d8d2c745e54c2806ef29a99f44802fc754e6526e751"), looks := false }, kinds := [], alts := [], laidByText := true, laidKinds := [.data], laidTests := true, laidLooks := .later }
def CompactPartsUptoCardSaid : Prop := Claim7.holds Tryz.pinned (.plain (OpenSpec.upto compactPartsSpec)) compactPartsUptoCard

/-- THE SECOND FORM's CARD OF 'loftlaw07.CompactNoMore'. -/
def compactNoMoreUptoCard : Claim7 := { stood := { row := compactNoMoreUptoRow, standIns := [], harness := (true, "2e3807d66451ad26c2a58d8d2c745e54c2806ef29a99f44802fc754e6526e751"), looks := false }, kinds := [], alts := [], laidByText := true, laidKinds := [.data], laidTests := true, laidLooks := .later }
def CompactNoMoreUptoCardSaid : Prop := Claim7.holds Tryz.pinned (.plain (OpenSpec.upto compactNoMoreSpec)) compactNoMoreUptoCard

/-- THE SECOND FORM's CARD OF 'loftlaw07.CompactAmid'. -/
def compactAmidUptoCard : Claim7 := { stood := { row := compactAmidUptoRow, standIns := [], harness := (true, "2e3807d66451ad26c2a58d8d2c745e54c2806ef29a99f44802fc754e6526e751"), looks := false }, kinds := [], alts := [], laidByText := true, laidKinds := [.data], laidTests := true, laidLooks := .later }
def CompactAmidUptoCardSaid : Prop := Claim7.holds Tryz.pinned (.plain (OpenSpec.upto compactAmidSpec)) compactAmidUptoCard

/-- THE SECOND FORM's CARD OF 'loftlaw07.CompactEnds'. -/
def compactEndsUptoCard : Claim7 := { stood := { row := compactEndsUptoRow, standIns := [], harness := (true, "2e3807d66451ad26c2a58d8d2c745e54c2806ef29a99f44802fc754e6526e751"), looks := false }, kinds := [], alts := [], laidByText := true, laidKinds := [.data], laidTests := true, laidLooks := .later }
def CompactEndsUptoCardSaid : Prop := Claim7.holds Tryz.pinned (.plain (OpenSpec.upto compactEndsSpec)) compactEndsUptoCard

/-- THE SECOND FORM's CARD OF 'loftlaw10.NodeBack'. -/
def nodeBackUptoCard : Claim7 := { stood := { row := nodeBackUptoRow, standIns := [], harness := (true, "2e3807d66451ad26c2a58d8d2c745e54c2806ef29a99f44802fc754e6526e751"), looks := false }, kinds := [], alts := [], laidByText := true, laidKinds := [.data], laidTests := true, laidLooks := .later }
def NodeBackUptoCardSaid : Prop := Claim7.holds Tryz.pinned (.plain (OpenSpec.upto nodeBackSpec)) nodeBackUptoCard

/-- THE SECOND FORM's CARD OF 'loftlaw15.BnodeWords'. -/
def bnodeWordsUptoCard : Claim7 := { stood := { row := bnodeWordsUptoRow, standIns := [], harness := (true, "2e3807d66451ad26c2a58d8d2c745e54c2806ef29a99f44802fc754e6526e751"), looks := false }, kinds := [], alts := [], laidByText := true, laidKinds := [.data], laidTests := true, laidLooks := .later }
def BnodeWordsUptoCardSaid : Prop := Claim7.holds Tryz.pinned (.plain (OpenSpec.upto bnodeWordsSpec)) bnodeWordsUptoCard

/-- THE SECOND FORM's CARD OF 'loftlaw15.BnodeSame'. -/
def bnodeSameUptoCard : Claim7 := { stood := { row := bnodeSameUptoRow, standIns := [], harness := (true, "2e3807d66451ad26c2a58d8d2c745e54c2806ef29a99f44802fc754e6526e751"), looks := false }, kinds := [], alts := [], laidByText := true, laidKinds := [.data], laidTests := true, laidLooks := .later }
def BnodeSameUptoCardSaid : Prop := Claim7.holds Tryz.pinned (.plain (OpenSpec.upto bnodeSameSpec)) bnodeSameUptoCard

/-- THE SECOND FORM's CARD OF 'loftlaw09.BlobCost'. -/
def blobCostUptoCard : Claim7 := { stood := { row := blobCostUptoRow, standIns := [], harness := (true, "2e3807d66451ad26c2a58d8d2c745e54c2806ef29a99f44802fc754e6526e751"), looks := false }, kinds := [], alts := [], laidByText := true, laidKinds := [.data], laidTests := true, laidLooks := .later }
def BlobCostUptoCardSaid : Prop := Claim7.holds Tryz.pinned (.plain (OpenSpec.upto blobCostSpec)) blobCostUptoCard

/-- THE SECOND FORM's CARD OF 'loftlaw09.BlobOther'. -/
def blobOtherUptoCard : Claim7 := { stood := { row := blobOtherUptoRow, standIns := [], harness := (true, "2e3807d66451ad26c2a58d8d2c745e54c2806ef29a99f44802fc754e6526e751"), looks := false }, kinds := [], alts := [], laidByText := true, laidKinds := [.data], laidTests := true, laidLooks := .later }
def BlobOtherUptoCardSaid : Prop := Claim7.holds Tryz.pinned (.plain (OpenSpec.upto blobOtherSpec)) blobOtherUptoCard

/-- THE SECOND FORM's CARD OF 'loftlaw15.BnodeNone'. -/
def bnodeNoneUptoCard : Claim7 := { stood := { row := bnodeNoneUptoRow, standIns := [], harness := (true, "2e3807d66451ad26c2a58d8d2c745e54c2806ef29a99f44802fc754e6526e751"), looks := false }, kinds := [], alts := [], laidByText := true, laidKinds := [.data], laidTests := true, laidLooks := .later }
def BnodeNoneUptoCardSaid : Prop := Claim7.holds Tryz.pinned (.plain (OpenSpec.upto bnodeNoneSpec)) bnodeNoneUptoCard

/-- THE SECOND FORM's CARD OF 'loftlaw15.BnodeBack'. -/
def bnodeBackUptoCard : Claim7 := { stood := { row := bnodeBackUptoRow, standIns := [], harness := (true, "2e3807d66451ad26c2a58d8d2c745e54c2806ef29a99f44802fc754e6526e751"), looks := false }, kinds := [], alts := [], laidByText := true, laidKinds := [.data], laidTests := true, laidLooks := .later }
def BnodeBackUptoCardSaid : Prop := Claim7.holds Tryz.pinned (.plain (OpenSpec.upto bnodeBackSpec)) bnodeBackUptoCard

/-- THE SECOND FORM's CARD OF 'loftlaw09.BlobBack'. -/
def blobBackUptoCard : Claim7 := { stood := { row := blobBackUptoRow, standIns := [], harness := (true, "2e3807d66451ad26c2a58d8d2c745e54c2806ef29a99f44802fc754e6526e751"), looks := false }, kinds := [], alts := [], laidByText := true, laidKinds := [.data], laidTests := true, laidLooks := .later }
def BlobBackUptoCardSaid : Prop := Claim7.holds Tryz.pinned (.plain (OpenSpec.upto blobBackSpec)) blobBackUptoCard
end Rows
end Go.Proofs.YtfmcddomciicdaaGreatDoor
