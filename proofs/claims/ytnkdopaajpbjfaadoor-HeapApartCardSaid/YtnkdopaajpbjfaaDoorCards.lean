/-
  DERIVED. GIVEN WITH THE SEED: THE CARDS: each row of YtnkdopaajpbjfaaDoorRows.lean that lists a variable, with what it lists TIED to the program's text (the seventh form; the later family's looks); each row that meets fmt, with fmt's text TOLD by the authors' own Lean function (tested against real Go, not proved from fmt's source: count such statements apart). THE CARD IS WHAT COUNTS. Prove the row's statement (the work); the ties are given (YtnkdopaajpbjfaaDoorTie.lean); close each card by the builder's one call (the guide's Derived/Test/ToyasCard.lean, 'card_holds'). Laid BY PROGRAM, IN A SANDBOX (cutbox-door.mjs). By AI agents, Wed Nov 11 2026. No macro, syntax, notation, axiom, sorry.
-/
import Derived.Test.YtnkdopaajpbjfaaDoorRows
import GoSem.ClaimSeven
namespace Go.Proofs.YtnkdopaajpbjfaaDoor
namespace Rows

/-- THE TIED CARD OF 'loftlaw04.HeapLeast'. -/
def heapLeastCard : Claim7 := { stood := { row := heapLeastRow, standIns := [], harness := (true, "840841fae574e89fe49e25ca63ed02f69408c9f2feb33f2b3cb6e683bba86db3"), looks := false }, kinds := [], alts := [], laidByText := true, laidKinds := [.data], laidTests := true, laidLooks := .later }
def HeapLeastCardSaid : Prop := Claim7.holds Tryd.pinned (.plain (OpenSpec.ofChange heapLeastSpec)) heapLeastCard

/-- THE TIED CARD OF 'loftlaw04.HeapApart'. -/
def heapApartCard : Claim7 := { stood := { row := heapApartRow, standIns := [], harness := (true, "840841fae574e89fe49e25ca63ed02f69408c9f2feb33f2b3cb6e683bba86db3"), looks := false }, kinds := [], alts := [], laidByText := true, laidKinds := [.data], laidTests := true, laidLooks := .later }
def HeapApartCardSaid : Prop := Claim7.holds Tryd.pinned (.plain (OpenSpec.ofChange heapApartSpec)) heapApartCard

/-- THE TIED CARD OF 'loftlaw04.HeapBack'. -/
def heapBackCard : Claim7 := { stood := { row := heapBackRow, standIns := [], harness := (true, "840841fae574e89fe49e25ca63ed02f69408c9f2feb33f2b3cb6e683bba86db3"), looks := false }, kinds := [], alts := [], laidByText := true, laidKinds := [.data], laidTests := true, laidLooks := .later }
def HeapBackCardSaid : Prop := Claim7.holds Tryd.pinned (.plain (OpenSpec.ofChange heapBackSpec)) heapBackCard

/-- THE TIED CARD OF 'loftlaw04.HeapTold'. -/
def heapToldCard : Claim7 := { stood := { row := heapToldRow, standIns := [], harness := (true, "840841fae574e89fe49e25ca63ed02f69408c9f2feb33f2b3cb6e683bba86db3"), looks := false }, kinds := [], alts := [], laidByText := true, laidKinds := [.data], laidTests := true, laidLooks := .later }
def HeapToldCardSaid : Prop := Claim7.holds Tryd.pinned (.plain (OpenSpec.ofChange heapToldSpec)) heapToldCard

/-- THE TIED CARD OF 'loftlaw04.HeapAny'. -/
def heapAnyCard : Claim7 := { stood := { row := heapAnyRow, standIns := [], harness := (true, "840841fae574e89fe49e25ca63ed02f69408c9f2feb33f2b3cb6e683bba86db3"), looks := false }, kinds := [], alts := [], laidByText := true, laidKinds := [.data], laidTests := true, laidLooks := .later }
def HeapAnyCardSaid : Prop := Claim7.holds Tryd.pinned (.plain (OpenSpec.ofChange heapAnySpec)) heapAnyCard

/-- THE TIED CARD OF 'loftlaw04.HeapSlides'. -/
def heapSlidesCard : Claim7 := { stood := { row := heapSlidesRow, standIns := [], harness := (true, "840841fae574e89fe49e25ca63ed02f69408c9f2feb33f2b3cb6e683bba86db3"), looks := false }, kinds := [], alts := [], laidByText := true, laidKinds := [.data], laidTests := true, laidLooks := .later }
def HeapSlidesCardSaid : Prop := Claim7.holds Tryd.pinned (.plain (OpenSpec.ofChange heapSlidesSpec)) heapSlidesCard

/-- THE TIED CARD OF 'loftlaw04.HeapNone'. -/
def heapNoneCard : Claim7 := { stood := { row := heapNoneRow, standIns := [], harness := (true, "840841fae574e89fe49e25ca63ed02f69408c9f2feb33f2b3cb6e683bba86db3"), looks := false }, kinds := [], alts := [], laidByText := true, laidKinds := [.data], laidTests := true, laidLooks := .later }
def HeapNoneCardSaid : Prop := Claim7.holds Tryd.pinned (.plain (OpenSpec.ofChange heapNoneSpec)) heapNoneCard

/-- THE SECOND FORM's CARD OF 'loftlaw04.HeapLeast'. -/
def heapLeastUptoCard : Claim7 := { stood := { row := heapLeastUptoRow, standIns := [], harness := (true, "840841fae574e89fe49e25ca63ed02f69408c9f2feb33f2b3cb6e683bba86db3"), looks := false }, kinds := [], alts := [], laidByText := true, laidKinds := [.data], laidTests := true, laidLooks := .later }
def HeapLeastUptoCardSaid : Prop := Claim7.holds Tryd.pinned (.plain (OpenSpec.upto heapLeastSpec)) heapLeastUptoCard

/-- THE SECOND FORM's CARD OF 'loftlaw04.HeapApart'. -/
def heapApartUptoCard : Claim7 := { stood := { row := heapApartUptoRow, standIns := [], harness := (true, "840841fae574e89fe49e25ca63ed02f69408c9f2feb33f2b3cb6e683bba86db3"), looks := false }, kinds := [], alts := [], laidByText := true, laidKinds := [.data], laidTests := true, laidLooks := .later }
def HeapApartUptoCardSaid : Prop := Claim7.holds Tryd.pinned (.plain (OpenSpec.upto heapApartSpec)) heapApartUptoCard

/-- THE SECOND FORM's CARD OF 'loftlaw04.HeapBack'. -/
def heapBackUptoCard : Claim7 := { stood := { row := heapBackUptoRow, standIns := [], harness := (true, "840841fae574e89fe49e25ca63ed02f69408c9f2feb33f2b3cb6e683bba86db3"), looks := false }, kinds := [], alts := [], laidByText := true, laidKinds := [.data], laidTests := true, laidLooks := .later }
def HeapBackUptoCardSaid : Prop := Claim7.holds Tryd.pinned (.plain (OpenSpec.upto heapBackSpec)) heapBackUptoCard

/-- THE SECOND FORM's CARD OF 'loftlaw04.HeapTold'. -/
def heapToldUptoCard : Claim7 := { stood := { row := heapToldUptoRow, standIns := [], harness := (true, "840841fae574e89fe49e25ca63ed02f69408c9f2feb33f2b3cb6e683bba86db3"), looks := false }, kinds := [], alts := [], laidByText := true, laidKinds := [.data], laidTests := true, laidLooks := .later }
def HeapToldUptoCardSaid : Prop := Claim7.holds Tryd.pinned (.plain (OpenSpec.upto heapToldSpec)) heapToldUptoCard

/-- THE SECOND FORM's CARD OF 'loftlaw04.HeapAny'. -/
def heapAnyUptoCard : Claim7 := { stood := { row := heapAnyUptoRow, standIns := [], harness := (true, "840841fae574e89fe49e25ca63ed02f69408c9f2feb33f2b3cb6e683bba86db3"), looks := false }, kinds := [], alts := [], laidByText := true, laidKinds := [.data], laidTests := true, laidLooks := .later }
def HeapAnyUptoCardSaid : Prop := Claim7.holds Tryd.pinned (.plain (OpenSpec.upto heapAnySpec)) heapAnyUptoCard

/-- THE SECOND FORM's CARD OF 'loftlaw04.HeapSlides'. -/
def heapSlidesUptoCard : Claim7 := { stood := { row := heapSlidesUptoRow, standIns := [], harness := (true, "840841fae574e89fe49e25ca63ed02f69408c9f2feb33f2b3cb6e683bba86db3"), looks := false }, kinds := [], alts := [], laidByText := true, laidKinds := [.data], laidTests := true, laidLooks := .later }
def HeapSlidesUptoCardSaid : Prop := Claim7.holds Tryd.pinned (.plain (OpenSpec.upto heapSlidesSpec)) heapSlidesUptoCard

/-- THE SECOND FORM's CARD OF 'loftlaw04.HeapNone'. -/
def heapNoneUptoCard : Claim7 := { stood := { row := heapNoneUptoRow, standIns := [], harness := (true, "840841fae574e89fe49e25ca63ed02f69408c9f2feb33f2b3cb6e683bba86db3"), looks := false }, kinds := [], alts := [], laidByText := true, laidKinds := [.data], laidTests := true, laidLooks := .later }
def HeapNoneUptoCardSaid : Prop := Claim7.holds Tryd.pinned (.plain (OpenSpec.upto heapNoneSpec)) heapNoneUptoCard
end Rows
end Go.Proofs.YtnkdopaajpbjfaaDoor
