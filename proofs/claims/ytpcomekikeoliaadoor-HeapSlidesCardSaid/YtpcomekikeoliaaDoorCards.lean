/-
  DERIVED. GIVEN WITH THE SEED: THE CARDS: each row of YtpcomekikeoliaaDoorRows.lean that lists a variable, with what it lists TIED to the program's text (the seventh form; the later family's looks); each row that meets fmt, with fmt's text TOLD by the authors' own Lean function (tested against real Go, not proved from fmt's source: count such statements apart). THE CARD IS WHAT COUNTS. Prove the row's statement (the work); the ties are given (YtpcomekikeoliaaDoorTie.lean); close each card by the builder's one call (the guide's Derived/Test/ToyasCard.lean, 'card_holds'). Laid BY PROGRAM, IN A SANDBOX (cutbox-door.mjs). By AI agents, Wed Nov 11 2026. No macro, syntax, notation, axiom, sorry.
-/
import Derived.Test.YtpcomekikeoliaaDoorRows
import GoSem.ClaimSeven
namespace Go.Proofs.YtpcomekikeoliaaDoor
namespace Rows

/-- THE TIED CARD OF 'loftlaw04.HeapAny'. -/
def heapAnyCard : Claim7 := { stood := { row := heapAnyRow, standIns := [], harness := (true, "4347bafe67c292e0a098cbedc41e878679e3eb9980909241de413dea50beb389"), looks := false }, kinds := [], alts := [], laidByText := true, laidKinds := [.data], laidTests := true, laidLooks := .later }
def HeapAnyCardSaid : Prop := Claim7.holds Tryd.pinned (.plain (OpenSpec.ofChange heapAnySpec)) heapAnyCard

/-- THE TIED CARD OF 'loftlaw04.HeapSlides'. -/
def heapSlidesCard : Claim7 := { stood := { row := heapSlidesRow, standIns := [], harness := (true, "4347bafe67c292e0a098cbedc41e878679e3eb9980909241de413dea50beb389"), looks := false }, kinds := [], alts := [], laidByText := true, laidKinds := [.data], laidTests := true, laidLooks := .later }
def HeapSlidesCardSaid : Prop := Claim7.holds Tryd.pinned (.plain (OpenSpec.ofChange heapSlidesSpec)) heapSlidesCard

/-- THE SECOND FORM's CARD OF 'loftlaw04.HeapAny'. -/
def heapAnyUptoCard : Claim7 := { stood := { row := heapAnyUptoRow, standIns := [], harness := (true, "4347bafe67c292e0a098cbedc41e878679e3eb9980909241de413dea50beb389"), looks := false }, kinds := [], alts := [], laidByText := true, laidKinds := [.data], laidTests := true, laidLooks := .later }
def HeapAnyUptoCardSaid : Prop := Claim7.holds Tryd.pinned (.plain (OpenSpec.upto heapAnySpec)) heapAnyUptoCard

/-- THE SECOND FORM's CARD OF 'loftlaw04.HeapSlides'. -/
def heapSlidesUptoCard : Claim7 := { stood := { row := heapSlidesUptoRow, standIns := [], harness := (true, "4347bafe67c292e0a098cbedc41e878679e3eb9980909241de413dea50beb389"), looks := false }, kinds := [], alts := [], laidByText := true, laidKinds := [.data], laidTests := true, laidLooks := .later }
def HeapSlidesUptoCardSaid : Prop := Claim7.holds Tryd.pinned (.plain (OpenSpec.upto heapSlidesSpec)) heapSlidesUptoCard
end Rows
end Go.Proofs.YtpcomekikeoliaaDoor
