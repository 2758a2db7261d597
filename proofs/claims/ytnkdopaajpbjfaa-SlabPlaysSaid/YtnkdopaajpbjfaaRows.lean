/-
  No cell of these rows narrows 'for every input' (looked for: loops, veiled, ifaces, maps, wideKeys, modest, calm, conditions, laid).
  DERIVED. THE GIVEN ROWS OF THIS SEAT. 5 by the template 'for every input the law returns true; each argument reads behind the call as it read before'; 0 by the template 'total and deterministic' (their statements: YtnkdopaajpbjfaaTotals.lean).
  GIVEN WITH THE SEED: the statements are not yours to turn. If you find one false, say at which input.
  Laid BY PROGRAM, IN A SANDBOX (cutbox-rows.mjs): the forced cells as the released guide's own fill.sh prints them over the translation 88c54f94f7fd9207… (all of the seat's roots in one cut). By AI agents, Wed Nov 11 2026. No macro, syntax, notation, axiom, sorry.
-/
import Derived.Test.YtnkdopaajpbjfaaChecked
import GoSem.Claim
import GoSem.ClaimJoined
import GoSem.ClaimMapViews
import Derived.JoinedTies
import Derived.KernelRfl
namespace Go.Proofs.Ytnkdopaajpbjfaa
/- THE CELL 'sum', in the pinned program and in every row, IS THE sha256 OF THE DUMP (.gsa) THAT YtnkdopaajpbjfaaProg.lean LOADS. Nothing in Lean hashes anything: it is a label: what it is worth is what the hold of that sum in a sandbox is worth. -/
noncomputable def Try.pinned : Pinned := { name := "ytnkdopaajpbjfaa", sum := "88c54f94f7fd92079ea7a19f8d62725880ca7291e20096601fd730b6c6efae3e", checked := Try.checked }
namespace Rows
def none {H : Type} : Left H := { results := [], args := [] }

/-- 'loftlaw01.SlabClaims': WHATEVER THE INPUT: true; the input reads as it did. -/
def slabClaimsSpec : ChangeSpec := { name := "slabClaims", fn := fun _ => fun
  | [d1, d2] => { results := [.lit (.bool true)], args := [d1, d2] }
  | _ => none }
def slabClaimsRow : OpenClaim := { program := "ytnkdopaajpbjfaa", sum := "88c54f94f7fd92079ea7a19f8d62725880ca7291e20096601fd730b6c6efae3e", func := "loft/loftlaw01.SlabClaims", spec := "slabClaims", unfollowed := true, recurses := true, apart := false }
def SlabClaimsSaid : Prop := slabClaimsRow.holds Try.pinned (OpenSpec.ofChange slabClaimsSpec)

/-- ITS FALSE NEIGHBOUR: 'it returns false'. Refute it at one input. -/
def slabClaimsWrong : ChangeSpec := { name := "slabClaims", fn := fun _ => fun
  | [d1, d2] => { results := [.lit (.bool false)], args := [d1, d2] }
  | _ => none }
def SlabClaimsWrongFalsely : Prop := slabClaimsRow.holds Try.pinned (OpenSpec.ofChange slabClaimsWrong)

/-- 'loftlaw01.SlabLeast': WHATEVER THE INPUT: true; the input reads as it did. -/
def slabLeastSpec : ChangeSpec := { name := "slabLeast", fn := fun _ => fun
  | [d1, d2] => { results := [.lit (.bool true)], args := [d1, d2] }
  | _ => none }
def slabLeastRow : OpenClaim := { program := "ytnkdopaajpbjfaa", sum := "88c54f94f7fd92079ea7a19f8d62725880ca7291e20096601fd730b6c6efae3e", func := "loft/loftlaw01.SlabLeast", spec := "slabLeast", unfollowed := true, recurses := true, apart := false }
def SlabLeastSaid : Prop := slabLeastRow.holds Try.pinned (OpenSpec.ofChange slabLeastSpec)

/-- ITS FALSE NEIGHBOUR: 'it returns false'. Refute it at one input. -/
def slabLeastWrong : ChangeSpec := { name := "slabLeast", fn := fun _ => fun
  | [d1, d2] => { results := [.lit (.bool false)], args := [d1, d2] }
  | _ => none }
def SlabLeastWrongFalsely : Prop := slabLeastRow.holds Try.pinned (OpenSpec.ofChange slabLeastWrong)

/-- 'loftlaw01.SlabTwo': WHATEVER THE INPUT: true; the input reads as it did. -/
def slabTwoSpec : ChangeSpec := { name := "slabTwo", fn := fun _ => fun
  | [d1, d2] => { results := [.lit (.bool true)], args := [d1, d2] }
  | _ => none }
def slabTwoRow : OpenClaim := { program := "ytnkdopaajpbjfaa", sum := "88c54f94f7fd92079ea7a19f8d62725880ca7291e20096601fd730b6c6efae3e", func := "loft/loftlaw01.SlabTwo", spec := "slabTwo", unfollowed := true, recurses := true, apart := false }
def SlabTwoSaid : Prop := slabTwoRow.holds Try.pinned (OpenSpec.ofChange slabTwoSpec)

/-- ITS FALSE NEIGHBOUR: 'it returns false'. Refute it at one input. -/
def slabTwoWrong : ChangeSpec := { name := "slabTwo", fn := fun _ => fun
  | [d1, d2] => { results := [.lit (.bool false)], args := [d1, d2] }
  | _ => none }
def SlabTwoWrongFalsely : Prop := slabTwoRow.holds Try.pinned (OpenSpec.ofChange slabTwoWrong)

/-- 'loftlaw01.SlabPlays': WHATEVER THE INPUT: true; the input reads as it did. -/
def slabPlaysSpec : ChangeSpec := { name := "slabPlays", fn := fun _ => fun
  | [d1, d2] => { results := [.lit (.bool true)], args := [d1, d2] }
  | _ => none }
def slabPlaysRow : OpenClaim := { program := "ytnkdopaajpbjfaa", sum := "88c54f94f7fd92079ea7a19f8d62725880ca7291e20096601fd730b6c6efae3e", func := "loft/loftlaw01.SlabPlays", spec := "slabPlays", unfollowed := true, recurses := true, apart := false }
def SlabPlaysSaid : Prop := slabPlaysRow.holds Try.pinned (OpenSpec.ofChange slabPlaysSpec)

/-- ITS FALSE NEIGHBOUR: 'it returns false'. Refute it at one input. -/
def slabPlaysWrong : ChangeSpec := { name := "slabPlays", fn := fun _ => fun
  | [d1, d2] => { results := [.lit (.bool false)], args := [d1, d2] }
  | _ => none }
def SlabPlaysWrongFalsely : Prop := slabPlaysRow.holds Try.pinned (OpenSpec.ofChange slabPlaysWrong)

/-- 'loftlaw01.SlabNone': WHATEVER THE INPUT: true; the input reads as it did. -/
def slabNoneSpec : ChangeSpec := { name := "slabNone", fn := fun _ => fun
  | [d1, d2, d3, d4] => { results := [.lit (.bool true)], args := [d1, d2, d3, d4] }
  | _ => none }
def slabNoneRow : OpenClaim := { program := "ytnkdopaajpbjfaa", sum := "88c54f94f7fd92079ea7a19f8d62725880ca7291e20096601fd730b6c6efae3e", func := "loft/loftlaw01.SlabNone", spec := "slabNone", unfollowed := true, recurses := true, apart := false }
def SlabNoneSaid : Prop := slabNoneRow.holds Try.pinned (OpenSpec.ofChange slabNoneSpec)

/-- ITS FALSE NEIGHBOUR: 'it returns false'. Refute it at one input. -/
def slabNoneWrong : ChangeSpec := { name := "slabNone", fn := fun _ => fun
  | [d1, d2, d3, d4] => { results := [.lit (.bool false)], args := [d1, d2, d3, d4] }
  | _ => none }
def SlabNoneWrongFalsely : Prop := slabNoneRow.holds Try.pinned (OpenSpec.ofChange slabNoneWrong)

/- THE SECOND FORM. 'bulk': how many values and letters a reading holds, each counted each time it is reached (what is shared counts as often as it is met; a slice's spare places count too). A statement '..UptoSaid' is the law's where the arguments, and the package variables that the reading takes, are together of bulk at most 1048576: NARROWER than '..Said'. Prove '..Said' where nothing that the law and all that it calls make is longer than what came in: it says more and counts as full. Else prove '..UptoSaid'. A law counts once. -/
mutual
def uptoBulk {H : Type} : DataW H → Nat
  | .lit (.string bytes) => bytes.length + 1
  | .lit _ => 1
  | .nil => 1
  | .ptr d => uptoBulk d + 1
  | .slice elems spare => uptoBulkAll elems + uptoBulkAll spare + 1
  | .agg parts => uptoBulkAll parts + 1
  | .iface _ d => uptoBulk d + 1
  | .map entries => uptoBulkEntries entries + 1
  | .held _ => 1
def uptoBulkAll {H : Type} : List (DataW H) → Nat
  | [] => 0
  | d :: r => uptoBulk d + uptoBulkAll r
def uptoBulkEntries {H : Type} : List (Lit × DataW H) → Nat
  | [] => 0
  | x :: r => uptoBulkEntry x + uptoBulkEntries r
def uptoBulkEntry {H : Type} : Lit × DataW H → Nat
  | (.string bytes, d) => bytes.length + uptoBulk d + 1
  | (_, d) => uptoBulk d + 1
 end
def uptoSmall : (H : Type) → List (DataW H) → Bool := fun _ ds => decide (uptoBulkAll ds ≤ 1048576)
def OpenSpec.upto (s : _root_.Go.ChangeSpec) : _root_.Go.OpenSpec := { _root_.Go.OpenSpec.ofChange s with cond := some uptoSmall }

/-- 'loftlaw01.SlabClaims', WHERE WHAT IT READS IS OF BULK AT MOST 1048576: true; the input reads as it did. -/
def slabClaimsUptoRow : OpenClaim := { program := "ytnkdopaajpbjfaa", sum := "88c54f94f7fd92079ea7a19f8d62725880ca7291e20096601fd730b6c6efae3e", func := "loft/loftlaw01.SlabClaims", spec := "slabClaims", unfollowed := true, recurses := true, apart := false, narrowed := true }
def SlabClaimsUptoSaid : Prop := slabClaimsUptoRow.holds Try.pinned (OpenSpec.upto slabClaimsSpec)

/-- 'loftlaw01.SlabLeast', WHERE WHAT IT READS IS OF BULK AT MOST 1048576: true; the input reads as it did. -/
def slabLeastUptoRow : OpenClaim := { program := "ytnkdopaajpbjfaa", sum := "88c54f94f7fd92079ea7a19f8d62725880ca7291e20096601fd730b6c6efae3e", func := "loft/loftlaw01.SlabLeast", spec := "slabLeast", unfollowed := true, recurses := true, apart := false, narrowed := true }
def SlabLeastUptoSaid : Prop := slabLeastUptoRow.holds Try.pinned (OpenSpec.upto slabLeastSpec)

/-- 'loftlaw01.SlabTwo', WHERE WHAT IT READS IS OF BULK AT MOST 1048576: true; the input reads as it did. -/
def slabTwoUptoRow : OpenClaim := { program := "ytnkdopaajpbjfaa", sum := "88c54f94f7fd92079ea7a19f8d62725880ca7291e20096601fd730b6c6efae3e", func := "loft/loftlaw01.SlabTwo", spec := "slabTwo", unfollowed := true, recurses := true, apart := false, narrowed := true }
def SlabTwoUptoSaid : Prop := slabTwoUptoRow.holds Try.pinned (OpenSpec.upto slabTwoSpec)

/-- 'loftlaw01.SlabPlays', WHERE WHAT IT READS IS OF BULK AT MOST 1048576: true; the input reads as it did. -/
def slabPlaysUptoRow : OpenClaim := { program := "ytnkdopaajpbjfaa", sum := "88c54f94f7fd92079ea7a19f8d62725880ca7291e20096601fd730b6c6efae3e", func := "loft/loftlaw01.SlabPlays", spec := "slabPlays", unfollowed := true, recurses := true, apart := false, narrowed := true }
def SlabPlaysUptoSaid : Prop := slabPlaysUptoRow.holds Try.pinned (OpenSpec.upto slabPlaysSpec)

/-- 'loftlaw01.SlabNone', WHERE WHAT IT READS IS OF BULK AT MOST 1048576: true; the input reads as it did. -/
def slabNoneUptoRow : OpenClaim := { program := "ytnkdopaajpbjfaa", sum := "88c54f94f7fd92079ea7a19f8d62725880ca7291e20096601fd730b6c6efae3e", func := "loft/loftlaw01.SlabNone", spec := "slabNone", unfollowed := true, recurses := true, apart := false, narrowed := true }
def SlabNoneUptoSaid : Prop := slabNoneUptoRow.holds Try.pinned (OpenSpec.upto slabNoneSpec)

end Rows
end Go.Proofs.Ytnkdopaajpbjfaa
