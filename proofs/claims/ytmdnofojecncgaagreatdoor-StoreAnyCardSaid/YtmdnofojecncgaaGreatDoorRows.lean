/-
  NARROWER THAN 'FOR EVERY INPUT', by the rows' own cells (each row's printed sentence says how): CompactParts: laid · BnodeBack: laid · CompactNoMore: laid · CompactAmid: laid · StoreRaw: laid · StoreAny: laid · CompactEnds: laid.
  DERIVED. THE GIVEN ROWS OF THIS SEAT. 7 by the template 'for every input the law returns true; each argument reads behind the call as it read before'; 0 by the template 'total and deterministic' (their statements: YtmdnofojecncgaaGreatDoorTotals.lean).
  GIVEN WITH THE SEED: the statements are not yours to turn. If you find one false, say at which input.
  Laid BY PROGRAM, IN A SANDBOX (cutbox-rows.mjs): the forced cells as the released guide's own fill.sh prints them over the translation b29d0d0e6fad9330… (all of the seat's roots in one cut). By AI agents, Wed Nov 11 2026. No macro, syntax, notation, axiom, sorry.
-/
import Derived.Test.YtmdnofojecncgaaGreatDoorChecked
import GoSem.Claim
import GoSem.ClaimJoined
import GoSem.ClaimMapViews
import Derived.JoinedTies
import Derived.KernelRfl
namespace Go.Proofs.YtmdnofojecncgaaGreatDoor
/- THE CELL 'sum', in the pinned program and in every row, IS THE sha256 OF THE DUMP (.gsa) THAT YtmdnofojecncgaaGreatDoorProg.lean LOADS. Nothing in Lean hashes anything: it is a label: what it is worth is what the hold of that sum in a sandbox is worth. -/
noncomputable def Tryz.pinned : Pinned := { name := "ytmdnofojecncgaagreatdoor", sum := "b29d0d0e6fad933039accdde28c2431571aaf4a6e235fffc088df2839adfb833", checked := Tryz.checked }
namespace Rows
def none {H : Type} : Left H := { results := [], args := [] }

/- WHAT THE LISTED PACKAGE-LEVEL VARIABLES READ AS WHEN THE CALL BEGINS. Each datum BY PROGRAM (the guide's laid-datum.mjs) off the statement by which the dump's own 'gosem.cut.vars' lays the variable. In a bare row this is a premise. The card (YtmdnofojecncgaaGreatDoorCards.lean) ties it to the program's text. -/
def laid_math_bits_deBruijn64tab {H : Type} : DataW H := .agg [.lit (.int .u8 0), .lit (.int .u8 1), .lit (.int .u8 56), .lit (.int .u8 2), .lit (.int .u8 57), .lit (.int .u8 49), .lit (.int .u8 28), .lit (.int .u8 3), .lit (.int .u8 61), .lit (.int .u8 58), .lit (.int .u8 42), .lit (.int .u8 50), .lit (.int .u8 38), .lit (.int .u8 29), .lit (.int .u8 17), .lit (.int .u8 4), .lit (.int .u8 62), .lit (.int .u8 47), .lit (.int .u8 59), .lit (.int .u8 36), .lit (.int .u8 45), .lit (.int .u8 43), .lit (.int .u8 51), .lit (.int .u8 22), .lit (.int .u8 53), .lit (.int .u8 39), .lit (.int .u8 33), .lit (.int .u8 30), .lit (.int .u8 24), .lit (.int .u8 18), .lit (.int .u8 12), .lit (.int .u8 5), .lit (.int .u8 63), .lit (.int .u8 55), .lit (.int .u8 48), .lit (.int .u8 27), .lit (.int .u8 60), .lit (.int .u8 41), .lit (.int .u8 37), .lit (.int .u8 16), .lit (.int .u8 46), .lit (.int .u8 35), .lit (.int .u8 44), .lit (.int .u8 21), .lit (.int .u8 52), .lit (.int .u8 32), .lit (.int .u8 23), .lit (.int .u8 11), .lit (.int .u8 54), .lit (.int .u8 26), .lit (.int .u8 40), .lit (.int .u8 15), .lit (.int .u8 34), .lit (.int .u8 20), .lit (.int .u8 31), .lit (.int .u8 10), .lit (.int .u8 25), .lit (.int .u8 14), .lit (.int .u8 19), .lit (.int .u8 9), .lit (.int .u8 13), .lit (.int .u8 8), .lit (.int .u8 7), .lit (.int .u8 6)]

/-- 'loftlaw07.CompactParts': WHATEVER THE INPUT: true; the input reads as it did. -/
def compactPartsSpec : ChangeSpec := { name := "compactParts", fn := fun _ => fun
  | [d1, d2, d3, d4, d5] => { results := [.lit (.bool true)], args := [d1, d2, d3, d4, d5] }
  | _ => none }
def compactPartsRow : OpenClaim := { program := "ytmdnofojecncgaagreatdoor", sum := "b29d0d0e6fad933039accdde28c2431571aaf4a6e235fffc088df2839adfb833", func := "loft/loftlaw07.CompactParts", spec := "compactParts", unfollowed := true, recurses := true, named := ["math/bits.deBruijn64tab"], apart := false, laid := [("math/bits.deBruijn64tab", laid_math_bits_deBruijn64tab)] }
def CompactPartsSaid : Prop := compactPartsRow.holds Tryz.pinned (OpenSpec.ofChange compactPartsSpec)

/-- ITS FALSE NEIGHBOUR: 'it returns false'. Refute it at one input. -/
def compactPartsWrong : ChangeSpec := { name := "compactParts", fn := fun _ => fun
  | [d1, d2, d3, d4, d5] => { results := [.lit (.bool false)], args := [d1, d2, d3, d4, d5] }
  | _ => none }
def CompactPartsWrongFalsely : Prop := compactPartsRow.holds Tryz.pinned (OpenSpec.ofChange compactPartsWrong)

/-- 'loftlaw15.BnodeBack': WHATEVER THE INPUT: true; the input reads as it did. -/
def bnodeBackSpec : ChangeSpec := { name := "bnodeBack", fn := fun _ => fun
  | [d1, d2, d3] => { results := [.lit (.bool true)], args := [d1, d2, d3] }
  | _ => none }
def bnodeBackRow : OpenClaim := { program := "ytmdnofojecncgaagreatdoor", sum := "b29d0d0e6fad933039accdde28c2431571aaf4a6e235fffc088df2839adfb833", func := "loft/loftlaw15.BnodeBack", spec := "bnodeBack", unfollowed := true, recurses := true, named := ["math/bits.deBruijn64tab"], apart := false, laid := [("math/bits.deBruijn64tab", laid_math_bits_deBruijn64tab)] }
def BnodeBackSaid : Prop := bnodeBackRow.holds Tryz.pinned (OpenSpec.ofChange bnodeBackSpec)

/-- ITS FALSE NEIGHBOUR: 'it returns false'. Refute it at one input. -/
def bnodeBackWrong : ChangeSpec := { name := "bnodeBack", fn := fun _ => fun
  | [d1, d2, d3] => { results := [.lit (.bool false)], args := [d1, d2, d3] }
  | _ => none }
def BnodeBackWrongFalsely : Prop := bnodeBackRow.holds Tryz.pinned (OpenSpec.ofChange bnodeBackWrong)

/-- 'loftlaw07.CompactNoMore': WHATEVER THE INPUT: true; the input reads as it did. -/
def compactNoMoreSpec : ChangeSpec := { name := "compactNoMore", fn := fun _ => fun
  | [d1, d2, d3] => { results := [.lit (.bool true)], args := [d1, d2, d3] }
  | _ => none }
def compactNoMoreRow : OpenClaim := { program := "ytmdnofojecncgaagreatdoor", sum := "b29d0d0e6fad933039accdde28c2431571aaf4a6e235fffc088df2839adfb833", func := "loft/loftlaw07.CompactNoMore", spec := "compactNoMore", unfollowed := true, recurses := true, named := ["math/bits.deBruijn64tab"], apart := false, laid := [("math/bits.deBruijn64tab", laid_math_bits_deBruijn64tab)] }
def CompactNoMoreSaid : Prop := compactNoMoreRow.holds Tryz.pinned (OpenSpec.ofChange compactNoMoreSpec)

/-- ITS FALSE NEIGHBOUR: 'it returns false'. Refute it at one input. -/
def compactNoMoreWrong : ChangeSpec := { name := "compactNoMore", fn := fun _ => fun
  | [d1, d2, d3] => { results := [.lit (.bool false)], args := [d1, d2, d3] }
  | _ => none }
def CompactNoMoreWrongFalsely : Prop := compactNoMoreRow.holds Tryz.pinned (OpenSpec.ofChange compactNoMoreWrong)

/-- 'loftlaw07.CompactAmid': WHATEVER THE INPUT: true; the input reads as it did. -/
def compactAmidSpec : ChangeSpec := { name := "compactAmid", fn := fun _ => fun
  | [d1, d2] => { results := [.lit (.bool true)], args := [d1, d2] }
  | _ => none }
def compactAmidRow : OpenClaim := { program := "ytmdnofojecncgaagreatdoor", sum := "b29d0d0e6fad933039accdde28c2431571aaf4a6e235fffc088df2839adfb833", func := "loft/loftlaw07.CompactAmid", spec := "compactAmid", unfollowed := true, recurses := true, named := ["math/bits.deBruijn64tab"], apart := false, laid := [("math/bits.deBruijn64tab", laid_math_bits_deBruijn64tab)] }
def CompactAmidSaid : Prop := compactAmidRow.holds Tryz.pinned (OpenSpec.ofChange compactAmidSpec)

/-- ITS FALSE NEIGHBOUR: 'it returns false'. Refute it at one input. -/
def compactAmidWrong : ChangeSpec := { name := "compactAmid", fn := fun _ => fun
  | [d1, d2] => { results := [.lit (.bool false)], args := [d1, d2] }
  | _ => none }
def CompactAmidWrongFalsely : Prop := compactAmidRow.holds Tryz.pinned (OpenSpec.ofChange compactAmidWrong)

/-- 'loftlaw06.StoreRaw': WHATEVER THE INPUT: true; the input reads as it did. -/
def storeRawSpec : ChangeSpec := { name := "storeRaw", fn := fun _ => fun
  | [d1, d2, d3, d4, d5] => { results := [.lit (.bool true)], args := [d1, d2, d3, d4, d5] }
  | _ => none }
def storeRawRow : OpenClaim := { program := "ytmdnofojecncgaagreatdoor", sum := "b29d0d0e6fad933039accdde28c2431571aaf4a6e235fffc088df2839adfb833", func := "loft/loftlaw06.StoreRaw", spec := "storeRaw", unfollowed := true, recurses := true, named := ["math/bits.deBruijn64tab"], apart := false, laid := [("math/bits.deBruijn64tab", laid_math_bits_deBruijn64tab)] }
def StoreRawSaid : Prop := storeRawRow.holds Tryz.pinned (OpenSpec.ofChange storeRawSpec)

/-- ITS FALSE NEIGHBOUR: 'it returns false'. Refute it at one input. -/
def storeRawWrong : ChangeSpec := { name := "storeRaw", fn := fun _ => fun
  | [d1, d2, d3, d4, d5] => { results := [.lit (.bool false)], args := [d1, d2, d3, d4, d5] }
  | _ => none }
def StoreRawWrongFalsely : Prop := storeRawRow.holds Tryz.pinned (OpenSpec.ofChange storeRawWrong)

/-- 'loftlaw06.StoreAny': WHATEVER THE INPUT: true; the input reads as it did. -/
def storeAnySpec : ChangeSpec := { name := "storeAny", fn := fun _ => fun
  | [d1, d2, d3, d4] => { results := [.lit (.bool true)], args := [d1, d2, d3, d4] }
  | _ => none }
def storeAnyRow : OpenClaim := { program := "ytmdnofojecncgaagreatdoor", sum := "b29d0d0e6fad933039accdde28c2431571aaf4a6e235fffc088df2839adfb833", func := "loft/loftlaw06.StoreAny", spec := "storeAny", unfollowed := true, recurses := true, named := ["math/bits.deBruijn64tab"], apart := false, laid := [("math/bits.deBruijn64tab", laid_math_bits_deBruijn64tab)] }
def StoreAnySaid : Prop := storeAnyRow.holds Tryz.pinned (OpenSpec.ofChange storeAnySpec)

/-- ITS FALSE NEIGHBOUR: 'it returns false'. Refute it at one input. -/
def storeAnyWrong : ChangeSpec := { name := "storeAny", fn := fun _ => fun
  | [d1, d2, d3, d4] => { results := [.lit (.bool false)], args := [d1, d2, d3, d4] }
  | _ => none }
def StoreAnyWrongFalsely : Prop := storeAnyRow.holds Tryz.pinned (OpenSpec.ofChange storeAnyWrong)

/-- 'loftlaw07.CompactEnds': WHATEVER THE INPUT: true; the input reads as it did. -/
def compactEndsSpec : ChangeSpec := { name := "compactEnds", fn := fun _ => fun
  | [d1, d2, d3] => { results := [.lit (.bool true)], args := [d1, d2, d3] }
  | _ => none }
def compactEndsRow : OpenClaim := { program := "ytmdnofojecncgaagreatdoor", sum := "b29d0d0e6fad933039accdde28c2431571aaf4a6e235fffc088df2839adfb833", func := "loft/loftlaw07.CompactEnds", spec := "compactEnds", unfollowed := true, recurses := true, named := ["math/bits.deBruijn64tab"], apart := false, laid := [("math/bits.deBruijn64tab", laid_math_bits_deBruijn64tab)] }
def CompactEndsSaid : Prop := compactEndsRow.holds Tryz.pinned (OpenSpec.ofChange compactEndsSpec)

/-- ITS FALSE NEIGHBOUR: 'it returns false'. Refute it at one input. -/
def compactEndsWrong : ChangeSpec := { name := "compactEnds", fn := fun _ => fun
  | [d1, d2, d3] => { results := [.lit (.bool false)], args := [d1, d2, d3] }
  | _ => none }
def CompactEndsWrongFalsely : Prop := compactEndsRow.holds Tryz.pinned (OpenSpec.ofChange compactEndsWrong)

/- THE SECOND FORM. 'bulk': how many values and letters a reading holds, each counted each time it is reached (what is shared counts as often as it is met; a slice's spare places count too). A statement '..UptoSaid' is the law's where the arguments, and the package variables that the reading takes, are together of bulk at most 1048576: NARROWER than '..Said'. Prove '..Said' where nothing that the law and all that it calls make is longer than what came in: it says more and counts as full. Else prove '..UptoSaid'. A law counts once. -/
mutual
def uptoBulk {H : Type} : DataW H → Nat
  | .lit (.string bytes) => bytes.length + 1
  | .lit _ => 1
  | .nil => 1
  | .ptr d => uptoBulk d + 1
  | .slice elems spare => uptoBulkAll elems + uptoBulkAll spare + 1
  | .agg parts => uptoBulkAll parts + 1
  | .iface _ d => uptoBulk d + 1
  | .map entries => uptoBulkEntries entries + 1
  | .held _ => 1
def uptoBulkAll {H : Type} : List (DataW H) → Nat
  | [] => 0
  | d :: r => uptoBulk d + uptoBulkAll r
def uptoBulkEntries {H : Type} : List (Lit × DataW H) → Nat
  | [] => 0
  | x :: r => uptoBulkEntry x + uptoBulkEntries r
def uptoBulkEntry {H : Type} : Lit × DataW H → Nat
  | (.string bytes, d) => bytes.length + uptoBulk d + 1
  | (_, d) => uptoBulk d + 1
 end
def uptoSmall : (H : Type) → List (DataW H) → Bool := fun _ ds => decide (uptoBulkAll ds ≤ 1048576)
def OpenSpec.upto (s : _root_.Go.ChangeSpec) : _root_.Go.OpenSpec := { _root_.Go.OpenSpec.ofChange s with cond := some uptoSmall }

/-- 'loftlaw07.CompactParts', WHERE WHAT IT READS IS OF BULK AT MOST 1048576: true; the input reads as it did. -/
def compactPartsUptoRow : OpenClaim := { program := "ytmdnofojecncgaagreatdoor", sum := "b29d0d0e6fad933039accdde28c2431571aaf4a6e235fffc088df2839adfb833", func := "loft/loftlaw07.CompactParts", spec := "compactParts", unfollowed := true, recurses := true, named := ["math/bits.deBruijn64tab"], apart := false, laid := [("math/bits.deBruijn64tab", laid_math_bits_deBruijn64tab)], narrowed := true }
def CompactPartsUptoSaid : Prop := compactPartsUptoRow.holds Tryz.pinned (OpenSpec.upto compactPartsSpec)

/-- 'loftlaw15.BnodeBack', WHERE WHAT IT READS IS OF BULK AT MOST 1048576: true; the input reads as it did. -/
def bnodeBackUptoRow : OpenClaim := { program := "ytmdnofojecncgaagreatdoor", sum := "b29d0d0e6fad933039accdde28c2431571aaf4a6e235fffc088df2839adfb833", func := "loft/loftlaw15.BnodeBack", spec := "bnodeBack", unfollowed := true, recurses := true, named := ["math/bits.deBruijn64tab"], apart := false, laid := [("math/bits.deBruijn64tab", laid_math_bits_deBruijn64tab)], narrowed := true }
def BnodeBackUptoSaid : Prop := bnodeBackUptoRow.holds Tryz.pinned (OpenSpec.upto bnodeBackSpec)

/-- 'loftlaw07.CompactNoMore', WHERE WHAT IT READS IS OF BULK AT MOST 1048576: true; the input reads as it did. -/
def compactNoMoreUptoRow : OpenClaim := { program := "ytmdnofojecncgaagreatdoor", sum := "b29d0d0e6fad933039accdde28c2431571aaf4a6e235fffc088df2839adfb833", func := "loft/loftlaw07.CompactNoMore", spec := "compactNoMore", unfollowed := true, recurses := true, named := ["math/bits.deBruijn64tab"], apart := false, laid := [("math/bits.deBruijn64tab", laid_math_bits_deBruijn64tab)], narrowed := true }
def CompactNoMoreUptoSaid : Prop := compactNoMoreUptoRow.holds Tryz.pinned (OpenSpec.upto compactNoMoreSpec)

/-- 'loftlaw07.CompactAmid', WHERE WHAT IT READS IS OF BULK AT MOST 1048576: true; the input reads as it did. -/
def compactAmidUptoRow : OpenClaim := { program := "ytmdnofojecncgaagreatdoor", sum := "b29d0d0e6fad933039accdde28c2431571aaf4a6e235fffc088df2839adfb833", func := "loft/loftlaw07.CompactAmid", spec := "compactAmid", unfollowed := true, recurses := true, named := ["math/bits.deBruijn64tab"], apart := false, laid := [("math/bits.deBruijn64tab", laid_math_bits_deBruijn64tab)], narrowed := true }
def CompactAmidUptoSaid : Prop := compactAmidUptoRow.holds Tryz.pinned (OpenSpec.upto compactAmidSpec)

/-- 'loftlaw06.StoreRaw', WHERE WHAT IT READS IS OF BULK AT MOST 1048576: true; the input reads as it did. -/
def storeRawUptoRow : OpenClaim := { program := "ytmdnofojecncgaagreatdoor", sum := "b29d0d0e6fad933039accdde28c2431571aaf4a6e235fffc088df2839adfb833", func := "loft/loftlaw06.StoreRaw", spec := "storeRaw", unfollowed := true, recurses := true, named := ["math/bits.deBruijn64tab"], apart := false, laid := [("math/bits.deBruijn64tab", laid_math_bits_deBruijn64tab)], narrowed := true }
def StoreRawUptoSaid : Prop := storeRawUptoRow.holds Tryz.pinned (OpenSpec.upto storeRawSpec)

/-- 'loftlaw06.StoreAny', WHERE WHAT IT READS IS OF BULK AT MOST 1048576: true; the input reads as it did. -/
def storeAnyUptoRow : OpenClaim := { program := "ytmdnofojecncgaagreatdoor", sum := "b29d0d0e6fad933039accdde28c2431571aaf4a6e235fffc088df2839adfb833", func := "loft/loftlaw06.StoreAny", spec := "storeAny", unfollowed := true, recurses := true, named := ["math/bits.deBruijn64tab"], apart := false, laid := [("math/bits.deBruijn64tab", laid_math_bits_deBruijn64tab)], narrowed := true }
def StoreAnyUptoSaid : Prop := storeAnyUptoRow.holds Tryz.pinned (OpenSpec.upto storeAnySpec)

/-- 'loftlaw07.CompactEnds', WHERE WHAT IT READS IS OF BULK AT MOST 1048576: true; the input reads as it did. -/
def compactEndsUptoRow : OpenClaim := { program := "ytmdnofojecncgaagreatdoor", sum := "b29d0d0e6fad933039accdde28c2431571aaf4a6e235fffc088df2839adfb833", func := "loft/loftlaw07.CompactEnds", spec := "compactEnds", unfollowed := true, recurses := true, named := ["math/bits.deBruijn64tab"], apart := false, laid := [("math/bits.deBruijn64tab", laid_math_bits_deBruijn64tab)], narrowed := true }
def CompactEndsUptoSaid : Prop := compactEndsUptoRow.holds Tryz.pinned (OpenSpec.upto compactEndsSpec)

end Rows
end Go.Proofs.YtmdnofojecncgaaGreatDoor
