/- Package text, walked: Many, Words. Conditions: as each says. -/
import Derived.Test.YtpcomekikeoliaaGreatDoorTextSpec
import Derived.Test.YtpcomekikeoliaaGreatDoorMakeSep
import Derived.Laws.IdiomStrings
import Derived.Laws.BytesArg
import Derived.StillTailTactics
set_option linter.unusedVariables false
set_option linter.unusedSimpArgs false
set_option maxRecDepth 100000
namespace Go.Proofs.YtpcomekikeoliaaGreatDoor
open Go Go.RowKit

variable {F0 : Nat → Prop} {w0 w : World} {Ps : List Res}

def many (n : Int) : Int := if n < 0 ∨ 1000 < n then 0 else 1 + (n + 8 - 1) / 8
abbrev u64Row (v : Value) (n : Nat) (xs : List Int) : Res := rowAt 52 1 v n (xs.map (Value.int .u64))
abbrev bytesObj (s : ByteArray) (cap : Nat) : Obj := .cells (bytesRow s cap) 5 ((bytesRow s cap).size, (bytesRow s cap).size + 1)
theorem bytes_cell {w : World} {b : Nat} {s : ByteArray} {cap i : Nat} (h : w.heap[b]? = some (bytesObj s cap)) (hi : i < s.size) : w.cell? ⟨b, i, none⟩ = some (.int .u8 (Txt.byteAt s i : Nat)) := by
  rw [cell_at h, bytesRow_at s cap i hi]
  unfold Txt.byteAt
  rw [Array.getElem?_eq_getElem hi]
  rfl

def WordsRel (w : World) (s : ByteArray) (g bo gb cap L i : Nat) (wr : World) : Prop :=
  Sep No w wr [u64Row (.slice (some ⟨g, 0, none⟩) L L) L (Txt.twTo s i), cellsAt bo #[.slice (some ⟨g, 0, none⟩) L L] 154, blockAt gb (bytesObj s cap)]

end Go.Proofs.YtpcomekikeoliaaGreatDoor
