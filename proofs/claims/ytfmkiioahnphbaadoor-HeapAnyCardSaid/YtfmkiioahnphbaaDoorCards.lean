/-
  DERIVED. GIVEN WITH THE SEED: THE CARDS: each row of YtfmkiioahnphbaaDoorRows.lean that lists a variable, with what it lists TIED to the program's text (the seventh form; the later family's looks); each row that meets fmt, with fmt's text TOLD by the authors' own Lean function (tested against real Go, not proved from fmt's source: count such statements apart). THE CARD IS WHAT COUNTS. Prove the row's statement (the work); the ties are given (YtfmkiioahnphbaaDoorTie.lean); close each card by the builder's one call (the guide's Derived/Test/ToyasCard.lean, 'card_holds'). Laid BY PROGRAM, IN A SANDBOX (cutbox-door.mjs). By AI agents, Wed Nov 11 2026. No macro, syntax, notation, axiom, sorry.
-/
import Derived.Test.YtfmkiioahnphbaaDoorRows
import GoSem.ClaimSeven
namespace Go.Proofs.YtfmkiioahnphbaaDoor
namespace Rows

/-- THE TIED CARD OF 'loftlaw04.HeapAny'. -/
def heapAnyCard : Claim7 := { stood := { row := heapAnyRow, standIns := [], harness := (true, "eaab2ce63ebf004403ce06df4e30d0b99ebbd8e2465b43a27772e726f72b6b92"), looks := false }, kinds := [], alts := [], laidByText := true, laidKinds := [.data], laidTests := true, laidLooks := .later }
def HeapAnyCardSaid : Prop := Claim7.holds Tryd.pinned (.plain (OpenSpec.ofChange heapAnySpec)) heapAnyCard

/-- THE SECOND FORM's CARD OF 'loftlaw04.HeapAny'. -/
def heapAnyUptoCard : Claim7 := { stood := { row := heapAnyUptoRow, standIns := [], harness := (true, "eaab2ce63ebf004403ce06df4e30d0b99ebbd8e2465b43a27772e726f72b6b92"), looks := false }, kinds := [], alts := [], laidByText := true, laidKinds := [.data], laidTests := true, laidLooks := .later }
def HeapAnyUptoCardSaid : Prop := Claim7.holds Tryd.pinned (.plain (OpenSpec.upto heapAnySpec)) heapAnyUptoCard
end Rows
end Go.Proofs.YtfmkiioahnphbaaDoor
