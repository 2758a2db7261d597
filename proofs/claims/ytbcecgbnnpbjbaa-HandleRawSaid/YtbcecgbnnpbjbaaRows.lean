/-
  No cell of these rows narrows 'for every input' (looked for: loops, veiled, ifaces, maps, wideKeys, modest, calm, conditions, laid).
  DERIVED. THE GIVEN ROWS OF THIS SEAT. 8 by the template 'for every input the law returns true; each argument reads behind the call as it read before'; 0 by the template 'total and deterministic' (their statements: YtbcecgbnnpbjbaaTotals.lean).
  GIVEN WITH THE SEED: the statements are not yours to turn. If you find one false, say at which input.
  Laid BY PROGRAM, IN A SANDBOX (cutbox-rows.mjs): the forced cells as the released guide's own fill.sh prints them over the translation 739eb700d8bbbc7a… (all of the seat's roots in one cut). By AI agents, Wed Nov 11 2026. No macro, syntax, notation, axiom, sorry.
-/
import Derived.Test.YtbcecgbnnpbjbaaChecked
import GoSem.Claim
import GoSem.ClaimJoined
import GoSem.ClaimMapViews
import Derived.JoinedTies
import Derived.KernelRfl
namespace Go.Proofs.Ytbcecgbnnpbjbaa
/- THE CELL 'sum', in the pinned program and in every row, IS THE sha256 OF THE DUMP (.gsa) THAT YtbcecgbnnpbjbaaProg.lean LOADS. Nothing in Lean hashes anything: it is a label: what it is worth is what the hold of that sum in a sandbox is worth. -/
noncomputable def Try.pinned : Pinned := { name := "ytbcecgbnnpbjbaa", sum := "739eb700d8bbbc7a9f5d42ac8d439ad865198a7d3eb5c7140f76fb249fde1173", checked := Try.checked }
namespace Rows
def none {H : Type} : Left H := { results := [], args := [] }

/-- 'loftlaw05.HandleLeast': WHATEVER THE INPUT: true; the input reads as it did. -/
def handleLeastSpec : ChangeSpec := { name := "handleLeast", fn := fun _ => fun
  | [d1, d2] => { results := [.lit (.bool true)], args := [d1, d2] }
  | _ => none }
def handleLeastRow : OpenClaim := { program := "ytbcecgbnnpbjbaa", sum := "739eb700d8bbbc7a9f5d42ac8d439ad865198a7d3eb5c7140f76fb249fde1173", func := "loft/loftlaw05.HandleLeast", spec := "handleLeast", apart := false }
def HandleLeastSaid : Prop := handleLeastRow.holds Try.pinned (OpenSpec.ofChange handleLeastSpec)

/-- ITS FALSE NEIGHBOUR: 'it returns false'. Refute it at one input. -/
def handleLeastWrong : ChangeSpec := { name := "handleLeast", fn := fun _ => fun
  | [d1, d2] => { results := [.lit (.bool false)], args := [d1, d2] }
  | _ => none }
def HandleLeastWrongFalsely : Prop := handleLeastRow.holds Try.pinned (OpenSpec.ofChange handleLeastWrong)

/-- 'loftlaw05.HandleOnce': WHATEVER THE INPUT: true; the input reads as it did. -/
def handleOnceSpec : ChangeSpec := { name := "handleOnce", fn := fun _ => fun
  | [d1, d2, d3] => { results := [.lit (.bool true)], args := [d1, d2, d3] }
  | _ => none }
def handleOnceRow : OpenClaim := { program := "ytbcecgbnnpbjbaa", sum := "739eb700d8bbbc7a9f5d42ac8d439ad865198a7d3eb5c7140f76fb249fde1173", func := "loft/loftlaw05.HandleOnce", spec := "handleOnce", apart := false }
def HandleOnceSaid : Prop := handleOnceRow.holds Try.pinned (OpenSpec.ofChange handleOnceSpec)

/-- ITS FALSE NEIGHBOUR: 'it returns false'. Refute it at one input. -/
def handleOnceWrong : ChangeSpec := { name := "handleOnce", fn := fun _ => fun
  | [d1, d2, d3] => { results := [.lit (.bool false)], args := [d1, d2, d3] }
  | _ => none }
def HandleOnceWrongFalsely : Prop := handleOnceRow.holds Try.pinned (OpenSpec.ofChange handleOnceWrong)

/-- 'loftlaw05.HandleEnds': WHATEVER THE INPUT: true; the input reads as it did. -/
def handleEndsSpec : ChangeSpec := { name := "handleEnds", fn := fun _ => fun
  | [d1, d2] => { results := [.lit (.bool true)], args := [d1, d2] }
  | _ => none }
def handleEndsRow : OpenClaim := { program := "ytbcecgbnnpbjbaa", sum := "739eb700d8bbbc7a9f5d42ac8d439ad865198a7d3eb5c7140f76fb249fde1173", func := "loft/loftlaw05.HandleEnds", spec := "handleEnds", apart := false }
def HandleEndsSaid : Prop := handleEndsRow.holds Try.pinned (OpenSpec.ofChange handleEndsSpec)

/-- ITS FALSE NEIGHBOUR: 'it returns false'. Refute it at one input. -/
def handleEndsWrong : ChangeSpec := { name := "handleEnds", fn := fun _ => fun
  | [d1, d2] => { results := [.lit (.bool false)], args := [d1, d2] }
  | _ => none }
def HandleEndsWrongFalsely : Prop := handleEndsRow.holds Try.pinned (OpenSpec.ofChange handleEndsWrong)

/-- 'loftlaw05.HandleTwo': WHATEVER THE INPUT: true; the input reads as it did. -/
def handleTwoSpec : ChangeSpec := { name := "handleTwo", fn := fun _ => fun
  | [d1, d2] => { results := [.lit (.bool true)], args := [d1, d2] }
  | _ => none }
def handleTwoRow : OpenClaim := { program := "ytbcecgbnnpbjbaa", sum := "739eb700d8bbbc7a9f5d42ac8d439ad865198a7d3eb5c7140f76fb249fde1173", func := "loft/loftlaw05.HandleTwo", spec := "handleTwo", apart := false }
def HandleTwoSaid : Prop := handleTwoRow.holds Try.pinned (OpenSpec.ofChange handleTwoSpec)

/-- ITS FALSE NEIGHBOUR: 'it returns false'. Refute it at one input. -/
def handleTwoWrong : ChangeSpec := { name := "handleTwo", fn := fun _ => fun
  | [d1, d2] => { results := [.lit (.bool false)], args := [d1, d2] }
  | _ => none }
def HandleTwoWrongFalsely : Prop := handleTwoRow.holds Try.pinned (OpenSpec.ofChange handleTwoWrong)

/-- 'loftlaw05.HandlePlays': WHATEVER THE INPUT: true; the input reads as it did. -/
def handlePlaysSpec : ChangeSpec := { name := "handlePlays", fn := fun _ => fun
  | [d1, d2, d3] => { results := [.lit (.bool true)], args := [d1, d2, d3] }
  | _ => none }
def handlePlaysRow : OpenClaim := { program := "ytbcecgbnnpbjbaa", sum := "739eb700d8bbbc7a9f5d42ac8d439ad865198a7d3eb5c7140f76fb249fde1173", func := "loft/loftlaw05.HandlePlays", spec := "handlePlays", apart := false }
def HandlePlaysSaid : Prop := handlePlaysRow.holds Try.pinned (OpenSpec.ofChange handlePlaysSpec)

/-- ITS FALSE NEIGHBOUR: 'it returns false'. Refute it at one input. -/
def handlePlaysWrong : ChangeSpec := { name := "handlePlays", fn := fun _ => fun
  | [d1, d2, d3] => { results := [.lit (.bool false)], args := [d1, d2, d3] }
  | _ => none }
def HandlePlaysWrongFalsely : Prop := handlePlaysRow.holds Try.pinned (OpenSpec.ofChange handlePlaysWrong)

/-- 'loftlaw05.HandleNone': WHATEVER THE INPUT: true; the input reads as it did. -/
def handleNoneSpec : ChangeSpec := { name := "handleNone", fn := fun _ => fun
  | [d1, d2] => { results := [.lit (.bool true)], args := [d1, d2] }
  | _ => none }
def handleNoneRow : OpenClaim := { program := "ytbcecgbnnpbjbaa", sum := "739eb700d8bbbc7a9f5d42ac8d439ad865198a7d3eb5c7140f76fb249fde1173", func := "loft/loftlaw05.HandleNone", spec := "handleNone", apart := false }
def HandleNoneSaid : Prop := handleNoneRow.holds Try.pinned (OpenSpec.ofChange handleNoneSpec)

/-- ITS FALSE NEIGHBOUR: 'it returns false'. Refute it at one input. -/
def handleNoneWrong : ChangeSpec := { name := "handleNone", fn := fun _ => fun
  | [d1, d2] => { results := [.lit (.bool false)], args := [d1, d2] }
  | _ => none }
def HandleNoneWrongFalsely : Prop := handleNoneRow.holds Try.pinned (OpenSpec.ofChange handleNoneWrong)

/-- 'loftlaw05.HandleMoves': WHATEVER THE INPUT: true; the input reads as it did. -/
def handleMovesSpec : ChangeSpec := { name := "handleMoves", fn := fun _ => fun
  | [d1, d2] => { results := [.lit (.bool true)], args := [d1, d2] }
  | _ => none }
def handleMovesRow : OpenClaim := { program := "ytbcecgbnnpbjbaa", sum := "739eb700d8bbbc7a9f5d42ac8d439ad865198a7d3eb5c7140f76fb249fde1173", func := "loft/loftlaw05.HandleMoves", spec := "handleMoves", apart := false }
def HandleMovesSaid : Prop := handleMovesRow.holds Try.pinned (OpenSpec.ofChange handleMovesSpec)

/-- ITS FALSE NEIGHBOUR: 'it returns false'. Refute it at one input. -/
def handleMovesWrong : ChangeSpec := { name := "handleMoves", fn := fun _ => fun
  | [d1, d2] => { results := [.lit (.bool false)], args := [d1, d2] }
  | _ => none }
def HandleMovesWrongFalsely : Prop := handleMovesRow.holds Try.pinned (OpenSpec.ofChange handleMovesWrong)

/-- 'loftlaw05.HandleRaw': WHATEVER THE INPUT: true; the input reads as it did. -/
def handleRawSpec : ChangeSpec := { name := "handleRaw", fn := fun _ => fun
  | [d1, d2, d3, d4, d5] => { results := [.lit (.bool true)], args := [d1, d2, d3, d4, d5] }
  | _ => none }
def handleRawRow : OpenClaim := { program := "ytbcecgbnnpbjbaa", sum := "739eb700d8bbbc7a9f5d42ac8d439ad865198a7d3eb5c7140f76fb249fde1173", func := "loft/loftlaw05.HandleRaw", spec := "handleRaw", apart := false }
def HandleRawSaid : Prop := handleRawRow.holds Try.pinned (OpenSpec.ofChange handleRawSpec)

/-- ITS FALSE NEIGHBOUR: 'it returns false'. Refute it at one input. -/
def handleRawWrong : ChangeSpec := { name := "handleRaw", fn := fun _ => fun
  | [d1, d2, d3, d4, d5] => { results := [.lit (.bool false)], args := [d1, d2, d3, d4, d5] }
  | _ => none }
def HandleRawWrongFalsely : Prop := handleRawRow.holds Try.pinned (OpenSpec.ofChange handleRawWrong)

/- THE SECOND FORM. 'bulk': how many values and letters a reading holds, each counted each time it is reached (what is shared counts as often as it is met; a slice's spare places count too). A statement '..UptoSaid' is the law's where the arguments, and the package variables that the reading takes, are together of bulk at most 1048576: NARROWER than '..Said'. Prove '..Said' where nothing that the law and all that it calls make is longer than what came in: it says more and counts as full. Else prove '..UptoSaid'. A law counts once. -/
mutual
def uptoBulk {H : Type} : DataW H → Nat
  | .lit (.string bytes) => bytes.length + 1
  | .lit _ => 1
  | .nil => 1
  | .ptr d => uptoBulk d + 1
  | .slice elems spare => uptoBulkAll elems + uptoBulkAll spare + 1
  | .agg parts => uptoBulkAll parts + 1
  | .iface _ d => uptoBulk d + 1
  | .map entries => uptoBulkEntries entries + 1
  | .held _ => 1
def uptoBulkAll {H : Type} : List (DataW H) → Nat
  | [] => 0
  | d :: r => uptoBulk d + uptoBulkAll r
def uptoBulkEntries {H : Type} : List (Lit × DataW H) → Nat
  | [] => 0
  | x :: r => uptoBulkEntry x + uptoBulkEntries r
def uptoBulkEntry {H : Type} : Lit × DataW H → Nat
  | (.string bytes, d) => bytes.length + uptoBulk d + 1
  | (_, d) => uptoBulk d + 1
 end
def uptoSmall : (H : Type) → List (DataW H) → Bool := fun _ ds => decide (uptoBulkAll ds ≤ 1048576)
def OpenSpec.upto (s : _root_.Go.ChangeSpec) : _root_.Go.OpenSpec := { _root_.Go.OpenSpec.ofChange s with cond := some uptoSmall }

/-- 'loftlaw05.HandleLeast', WHERE WHAT IT READS IS OF BULK AT MOST 1048576: true; the input reads as it did. -/
def handleLeastUptoRow : OpenClaim := { program := "ytbcecgbnnpbjbaa", sum := "739eb700d8bbbc7a9f5d42ac8d439ad865198a7d3eb5c7140f76fb249fde1173", func := "loft/loftlaw05.HandleLeast", spec := "handleLeast", apart := false, narrowed := true }
def HandleLeastUptoSaid : Prop := handleLeastUptoRow.holds Try.pinned (OpenSpec.upto handleLeastSpec)

/-- 'loftlaw05.HandleOnce', WHERE WHAT IT READS IS OF BULK AT MOST 1048576: true; the input reads as it did. -/
def handleOnceUptoRow : OpenClaim := { program := "ytbcecgbnnpbjbaa", sum := "739eb700d8bbbc7a9f5d42ac8d439ad865198a7d3eb5c7140f76fb249fde1173", func := "loft/loftlaw05.HandleOnce", spec := "handleOnce", apart := false, narrowed := true }
def HandleOnceUptoSaid : Prop := handleOnceUptoRow.holds Try.pinned (OpenSpec.upto handleOnceSpec)

/-- 'loftlaw05.HandleEnds', WHERE WHAT IT READS IS OF BULK AT MOST 1048576: true; the input reads as it did. -/
def handleEndsUptoRow : OpenClaim := { program := "ytbcecgbnnpbjbaa", sum := "739eb700d8bbbc7a9f5d42ac8d439ad865198a7d3eb5c7140f76fb249fde1173", func := "loft/loftlaw05.HandleEnds", spec := "handleEnds", apart := false, narrowed := true }
def HandleEndsUptoSaid : Prop := handleEndsUptoRow.holds Try.pinned (OpenSpec.upto handleEndsSpec)

/-- 'loftlaw05.HandleTwo', WHERE WHAT IT READS IS OF BULK AT MOST 1048576: true; the input reads as it did. -/
def handleTwoUptoRow : OpenClaim := { program := "ytbcecgbnnpbjbaa", sum := "739eb700d8bbbc7a9f5d42ac8d439ad865198a7d3eb5c7140f76fb249fde1173", func := "loft/loftlaw05.HandleTwo", spec := "handleTwo", apart := false, narrowed := true }
def HandleTwoUptoSaid : Prop := handleTwoUptoRow.holds Try.pinned (OpenSpec.upto handleTwoSpec)

/-- 'loftlaw05.HandlePlays', WHERE WHAT IT READS IS OF BULK AT MOST 1048576: true; the input reads as it did. -/
def handlePlaysUptoRow : OpenClaim := { program := "ytbcecgbnnpbjbaa", sum := "739eb700d8bbbc7a9f5d42ac8d439ad865198a7d3eb5c7140f76fb249fde1173", func := "loft/loftlaw05.HandlePlays", spec := "handlePlays", apart := false, narrowed := true }
def HandlePlaysUptoSaid : Prop := handlePlaysUptoRow.holds Try.pinned (OpenSpec.upto handlePlaysSpec)

/-- 'loftlaw05.HandleNone', WHERE WHAT IT READS IS OF BULK AT MOST 1048576: true; the input reads as it did. -/
def handleNoneUptoRow : OpenClaim := { program := "ytbcecgbnnpbjbaa", sum := "739eb700d8bbbc7a9f5d42ac8d439ad865198a7d3eb5c7140f76fb249fde1173", func := "loft/loftlaw05.HandleNone", spec := "handleNone", apart := false, narrowed := true }
def HandleNoneUptoSaid : Prop := handleNoneUptoRow.holds Try.pinned (OpenSpec.upto handleNoneSpec)

/-- 'loftlaw05.HandleMoves', WHERE WHAT IT READS IS OF BULK AT MOST 1048576: true; the input reads as it did. -/
def handleMovesUptoRow : OpenClaim := { program := "ytbcecgbnnpbjbaa", sum := "739eb700d8bbbc7a9f5d42ac8d439ad865198a7d3eb5c7140f76fb249fde1173", func := "loft/loftlaw05.HandleMoves", spec := "handleMoves", apart := false, narrowed := true }
def HandleMovesUptoSaid : Prop := handleMovesUptoRow.holds Try.pinned (OpenSpec.upto handleMovesSpec)

/-- 'loftlaw05.HandleRaw', WHERE WHAT IT READS IS OF BULK AT MOST 1048576: true; the input reads as it did. -/
def handleRawUptoRow : OpenClaim := { program := "ytbcecgbnnpbjbaa", sum := "739eb700d8bbbc7a9f5d42ac8d439ad865198a7d3eb5c7140f76fb249fde1173", func := "loft/loftlaw05.HandleRaw", spec := "handleRaw", apart := false, narrowed := true }
def HandleRawUptoSaid : Prop := handleRawUptoRow.holds Try.pinned (OpenSpec.upto handleRawSpec)

end Rows
end Go.Proofs.Ytbcecgbnnpbjbaa
