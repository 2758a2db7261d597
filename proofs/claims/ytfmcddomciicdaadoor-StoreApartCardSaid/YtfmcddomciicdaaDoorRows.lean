/-
  NARROWER THAN 'FOR EVERY INPUT', by the rows' own cells (each row's printed sentence says how): StoreFull: laid · StoreCosts: laid · StoreApart: laid · NodeWords: laid · NodeNone: laid · NodeRoom: laid · BlobSame: laid · BlobRoom: laid · BnodeRoom: laid.
  DERIVED. THE GIVEN ROWS OF THIS SEAT. 9 by the template 'for every input the law returns true; each argument reads behind the call as it read before'; 0 by the template 'total and deterministic' (their statements: YtfmcddomciicdaaDoorTotals.lean).
  GIVEN WITH THE SEED: the statements are not yours to turn. If you find one false, say at which input.
  Laid BY PROGRAM, IN A SANDBOX (cutbox-rows.mjs): the forced cells as the released guide's own fill.sh prints them over the translation 270ab7c896c0d7c6… (all of the seat's roots in one cut). By AI agents, Wed Nov 11 2026. No macro, syntax, notation, axiom, sorry.
-/
import Derived.Test.YtfmcddomciicdaaDoorChecked
import GoSem.Claim
import GoSem.ClaimJoined
import GoSem.ClaimMapViews
import Derived.JoinedTies
import Derived.KernelRfl
namespace Go.Proofs.YtfmcddomciicdaaDoor
/- THE CELL 'sum', in the pinned program and in every row, IS THE sha256 OF THE DUMP (.gsa) THAT YtfmcddomciicdaaDoorProg.lean LOADS. Nothing in Lean hashes anything: it is a label: what it is worth is what the hold of that sum in a sandbox is worth. -/
noncomputable def Tryd.pinned : Pinned := { name := "ytfmcddomciicdaadoor", sum := "270ab7c896c0d7c688e024af0d5bc0af275f8c8599838d614a82294d01dbd9d2", checked := Tryd.checked }
namespace Rows
def none {H : Type} : Left H := { results := [], args := [] }

/- WHAT THE LISTED PACKAGE-LEVEL VARIABLES READ AS WHEN THE CALL BEGINS. Each datum BY PROGRAM (the guide's laid-datum.mjs) off the statement by which the dump's own 'gosem.cut.vars' lays the variable. In a bare row this is a premise. The card (YtfmcddomciicdaaDoorCards.lean) ties it to the program's text. -/
def laid_math_bits_deBruijn64tab {H : Type} : DataW H := .agg [.lit (.int .u8 0), .lit (.int .u8 1), .lit (.int .u8 56), .lit (.int .u8 2), .lit (.int .u8 57), .lit (.int .u8 49), .lit (.int .u8 28), .lit (.int .u8 3), .lit (.int .u8 61), .lit (.int .u8 58), .lit (.int .u8 42), .lit (.int .u8 50), .lit (.int .u8 38), .lit (.int .u8 29), .lit (.int .u8 17), .lit (.int .u8 4), .lit (.int .u8 62), .lit (.int .u8 47), .lit (.int .u8 59), .lit (.int .u8 36), .lit (.int .u8 45), .lit (.int .u8 43), .lit (.int .u8 51), .lit (.int .u8 22), .lit (.int .u8 53), .lit (.int .u8 39), .lit (.int .u8 33), .lit (.int .u8 30), .lit (.int .u8 24), .lit (.int .u8 18), .lit (.int .u8 12), .lit (.int .u8 5), .lit (.int .u8 63), .lit (.int .u8 55), .lit (.int .u8 48), .lit (.int .u8 27), .lit (.int .u8 60), .lit (.int .u8 41), .lit (.int .u8 37), .lit (.int .u8 16), .lit (.int .u8 46), .lit (.int .u8 35), .lit (.int .u8 44), .lit (.int .u8 21), .lit (.int .u8 52), .lit (.int .u8 32), .lit (.int .u8 23), .lit (.int .u8 11), .lit (.int .u8 54), .lit (.int .u8 26), .lit (.int .u8 40), .lit (.int .u8 15), .lit (.int .u8 34), .lit (.int .u8 20), .lit (.int .u8 31), .lit (.int .u8 10), .lit (.int .u8 25), .lit (.int .u8 14), .lit (.int .u8 19), .lit (.int .u8 9), .lit (.int .u8 13), .lit (.int .u8 8), .lit (.int .u8 7), .lit (.int .u8 6)]

/-- 'loftlaw06.StoreFull': WHATEVER THE INPUT: true; the input reads as it did. -/
def storeFullSpec : ChangeSpec := { name := "storeFull", fn := fun _ => fun
  | [d1, d2] => { results := [.lit (.bool true)], args := [d1, d2] }
  | _ => none }
def storeFullRow : OpenClaim := { program := "ytfmcddomciicdaadoor", sum := "270ab7c896c0d7c688e024af0d5bc0af275f8c8599838d614a82294d01dbd9d2", func := "loft/loftlaw06.StoreFull", spec := "storeFull", unfollowed := true, recurses := true, named := ["math/bits.deBruijn64tab"], apart := false, laid := [("math/bits.deBruijn64tab", laid_math_bits_deBruijn64tab)] }
def StoreFullSaid : Prop := storeFullRow.holds Tryd.pinned (OpenSpec.ofChange storeFullSpec)

/-- ITS FALSE NEIGHBOUR: 'it returns false'. Refute it at one input. -/
def storeFullWrong : ChangeSpec := { name := "storeFull", fn := fun _ => fun
  | [d1, d2] => { results := [.lit (.bool false)], args := [d1, d2] }
  | _ => none }
def StoreFullWrongFalsely : Prop := storeFullRow.holds Tryd.pinned (OpenSpec.ofChange storeFullWrong)

/-- 'loftlaw06.StoreCosts': WHATEVER THE INPUT: true; the input reads as it did. -/
def storeCostsSpec : ChangeSpec := { name := "storeCosts", fn := fun _ => fun
  | [d] => { results := [.lit (.bool true)], args := [d] }
  | _ => none }
def storeCostsRow : OpenClaim := { program := "ytfmcddomciicdaadoor", sum := "270ab7c896c0d7c688e024af0d5bc0af275f8c8599838d614a82294d01dbd9d2", func := "loft/loftlaw06.StoreCosts", spec := "storeCosts", unfollowed := true, recurses := true, named := ["math/bits.deBruijn64tab"], apart := false, laid := [("math/bits.deBruijn64tab", laid_math_bits_deBruijn64tab)] }
def StoreCostsSaid : Prop := storeCostsRow.holds Tryd.pinned (OpenSpec.ofChange storeCostsSpec)

/-- ITS FALSE NEIGHBOUR: 'it returns false'. Refute it at one input. -/
def storeCostsWrong : ChangeSpec := { name := "storeCosts", fn := fun _ => fun
  | [d] => { results := [.lit (.bool false)], args := [d] }
  | _ => none }
def StoreCostsWrongFalsely : Prop := storeCostsRow.holds Tryd.pinned (OpenSpec.ofChange storeCostsWrong)

/-- 'loftlaw06.StoreApart': WHATEVER THE INPUT: true; the input reads as it did. -/
def storeApartSpec : ChangeSpec := { name := "storeApart", fn := fun _ => fun
  | [d1, d2, d3] => { results := [.lit (.bool true)], args := [d1, d2, d3] }
  | _ => none }
def storeApartRow : OpenClaim := { program := "ytfmcddomciicdaadoor", sum := "270ab7c896c0d7c688e024af0d5bc0af275f8c8599838d614a82294d01dbd9d2", func := "loft/loftlaw06.StoreApart", spec := "storeApart", unfollowed := true, recurses := true, named := ["math/bits.deBruijn64tab"], apart := false, laid := [("math/bits.deBruijn64tab", laid_math_bits_deBruijn64tab)] }
def StoreApartSaid : Prop := storeApartRow.holds Tryd.pinned (OpenSpec.ofChange storeApartSpec)

/-- ITS FALSE NEIGHBOUR: 'it returns false'. Refute it at one input. -/
def storeApartWrong : ChangeSpec := { name := "storeApart", fn := fun _ => fun
  | [d1, d2, d3] => { results := [.lit (.bool false)], args := [d1, d2, d3] }
  | _ => none }
def StoreApartWrongFalsely : Prop := storeApartRow.holds Tryd.pinned (OpenSpec.ofChange storeApartWrong)

/-- 'loftlaw10.NodeWords': WHATEVER THE INPUT: true; the input reads as it did. -/
def nodeWordsSpec : ChangeSpec := { name := "nodeWords", fn := fun _ => fun
  | [d1, d2, d3] => { results := [.lit (.bool true)], args := [d1, d2, d3] }
  | _ => none }
def nodeWordsRow : OpenClaim := { program := "ytfmcddomciicdaadoor", sum := "270ab7c896c0d7c688e024af0d5bc0af275f8c8599838d614a82294d01dbd9d2", func := "loft/loftlaw10.NodeWords", spec := "nodeWords", unfollowed := true, recurses := true, named := ["math/bits.deBruijn64tab"], apart := false, laid := [("math/bits.deBruijn64tab", laid_math_bits_deBruijn64tab)] }
def NodeWordsSaid : Prop := nodeWordsRow.holds Tryd.pinned (OpenSpec.ofChange nodeWordsSpec)

/-- ITS FALSE NEIGHBOUR: 'it returns false'. Refute it at one input. -/
def nodeWordsWrong : ChangeSpec := { name := "nodeWords", fn := fun _ => fun
  | [d1, d2, d3] => { results := [.lit (.bool false)], args := [d1, d2, d3] }
  | _ => none }
def NodeWordsWrongFalsely : Prop := nodeWordsRow.holds Tryd.pinned (OpenSpec.ofChange nodeWordsWrong)

/-- 'loftlaw10.NodeNone': WHATEVER THE INPUT: true; the input reads as it did. -/
def nodeNoneSpec : ChangeSpec := { name := "nodeNone", fn := fun _ => fun
  | [d1, d2] => { results := [.lit (.bool true)], args := [d1, d2] }
  | _ => none }
def nodeNoneRow : OpenClaim := { program := "ytfmcddomciicdaadoor", sum := "270ab7c896c0d7c688e024af0d5bc0af275f8c8599838d614a82294d01dbd9d2", func := "loft/loftlaw10.NodeNone", spec := "nodeNone", unfollowed := true, recurses := true, named := ["math/bits.deBruijn64tab"], apart := false, laid := [("math/bits.deBruijn64tab", laid_math_bits_deBruijn64tab)] }
def NodeNoneSaid : Prop := nodeNoneRow.holds Tryd.pinned (OpenSpec.ofChange nodeNoneSpec)

/-- ITS FALSE NEIGHBOUR: 'it returns false'. Refute it at one input. -/
def nodeNoneWrong : ChangeSpec := { name := "nodeNone", fn := fun _ => fun
  | [d1, d2] => { results := [.lit (.bool false)], args := [d1, d2] }
  | _ => none }
def NodeNoneWrongFalsely : Prop := nodeNoneRow.holds Tryd.pinned (OpenSpec.ofChange nodeNoneWrong)

/-- 'loftlaw10.NodeRoom': WHATEVER THE INPUT: true; the input reads as it did. -/
def nodeRoomSpec : ChangeSpec := { name := "nodeRoom", fn := fun _ => fun
  | [d1, d2, d3] => { results := [.lit (.bool true)], args := [d1, d2, d3] }
  | _ => none }
def nodeRoomRow : OpenClaim := { program := "ytfmcddomciicdaadoor", sum := "270ab7c896c0d7c688e024af0d5bc0af275f8c8599838d614a82294d01dbd9d2", func := "loft/loftlaw10.NodeRoom", spec := "nodeRoom", unfollowed := true, recurses := true, named := ["math/bits.deBruijn64tab"], apart := false, laid := [("math/bits.deBruijn64tab", laid_math_bits_deBruijn64tab)] }
def NodeRoomSaid : Prop := nodeRoomRow.holds Tryd.pinned (OpenSpec.ofChange nodeRoomSpec)

/-- ITS FALSE NEIGHBOUR: 'it returns false'. Refute it at one input. -/
def nodeRoomWrong : ChangeSpec := { name := "nodeRoom", fn := fun _ => fun
  | [d1, d2, d3] => { results := [.lit (.bool false)], args := [d1, d2, d3] }
  | _ => none }
def NodeRoomWrongFalsely : Prop := nodeRoomRow.holds Tryd.pinned (OpenSpec.ofChange nodeRoomWrong)

/-- 'loftlaw09.BlobSame': WHATEVER THE INPUT: true; the input reads as it did. -/
def blobSameSpec : ChangeSpec := { name := "blobSame", fn := fun _ => fun
  | [d] => { results := [.lit (.bool true)], args := [d] }
  | _ => none }
def blobSameRow : OpenClaim := { program := "ytfmcddomciicdaadoor", sum := "270ab7c896c0d7c688e024af0d5bc0af275f8c8599838d614a82294d01dbd9d2", func := "loft/loftlaw09.BlobSame", spec := "blobSame", unfollowed := true, recurses := true, named := ["math/bits.deBruijn64tab"], apart := false, laid := [("math/bits.deBruijn64tab", laid_math_bits_deBruijn64tab)] }
def BlobSameSaid : Prop := blobSameRow.holds Tryd.pinned (OpenSpec.ofChange blobSameSpec)

/-- ITS FALSE NEIGHBOUR: 'it returns false'. Refute it at one input. -/
def blobSameWrong : ChangeSpec := { name := "blobSame", fn := fun _ => fun
  | [d] => { results := [.lit (.bool false)], args := [d] }
  | _ => none }
def BlobSameWrongFalsely : Prop := blobSameRow.holds Tryd.pinned (OpenSpec.ofChange blobSameWrong)

/-- 'loftlaw09.BlobRoom': WHATEVER THE INPUT: true; the input reads as it did. -/
def blobRoomSpec : ChangeSpec := { name := "blobRoom", fn := fun _ => fun
  | [d] => { results := [.lit (.bool true)], args := [d] }
  | _ => none }
def blobRoomRow : OpenClaim := { program := "ytfmcddomciicdaadoor", sum := "270ab7c896c0d7c688e024af0d5bc0af275f8c8599838d614a82294d01dbd9d2", func := "loft/loftlaw09.BlobRoom", spec := "blobRoom", unfollowed := true, recurses := true, named := ["math/bits.deBruijn64tab"], apart := false, laid := [("math/bits.deBruijn64tab", laid_math_bits_deBruijn64tab)] }
def BlobRoomSaid : Prop := blobRoomRow.holds Tryd.pinned (OpenSpec.ofChange blobRoomSpec)

/-- ITS FALSE NEIGHBOUR: 'it returns false'. Refute it at one input. -/
def blobRoomWrong : ChangeSpec := { name := "blobRoom", fn := fun _ => fun
  | [d] => { results := [.lit (.bool false)], args := [d] }
  | _ => none }
def BlobRoomWrongFalsely : Prop := blobRoomRow.holds Tryd.pinned (OpenSpec.ofChange blobRoomWrong)

/-- 'loftlaw15.BnodeRoom': WHATEVER THE INPUT: true; the input reads as it did. -/
def bnodeRoomSpec : ChangeSpec := { name := "bnodeRoom", fn := fun _ => fun
  | [d1, d2] => { results := [.lit (.bool true)], args := [d1, d2] }
  | _ => none }
def bnodeRoomRow : OpenClaim := { program := "ytfmcddomciicdaadoor", sum := "270ab7c896c0d7c688e024af0d5bc0af275f8c8599838d614a82294d01dbd9d2", func := "loft/loftlaw15.BnodeRoom", spec := "bnodeRoom", unfollowed := true, recurses := true, named := ["math/bits.deBruijn64tab"], apart := false, laid := [("math/bits.deBruijn64tab", laid_math_bits_deBruijn64tab)] }
def BnodeRoomSaid : Prop := bnodeRoomRow.holds Tryd.pinned (OpenSpec.ofChange bnodeRoomSpec)

/-- ITS FALSE NEIGHBOUR: 'it returns false'. Refute it at one input. -/
def bnodeRoomWrong : ChangeSpec := { name := "bnodeRoom", fn := fun _ => fun
  | [d1, d2] => { results := [.lit (.bool false)], args := [d1, d2] }
  | _ => none }
def BnodeRoomWrongFalsely : Prop := bnodeRoomRow.holds Tryd.pinned (OpenSpec.ofChange bnodeRoomWrong)

/- THE SECOND FORM. 'bulk': how many values and letters a reading holds, each counted each time it is reached (what is shared counts as often as it is met; a slice's spare places count too). A statement '..UptoSaid' is the law's where the arguments, and the package variables that the reading takes, are together of bulk at most 1048576: NARROWER than '..Said'. Prove '..Said' where nothing that the law and all that it calls make is longer than what came in: it says more and counts as full. Else prove '..UptoSaid'. A law counts once. -/
mutual
def uptoBulk {H : Type} : DataW H → Nat
  | .lit (.string bytes) => bytes.length + 1
  | .lit _ => 1
  | .nil => 1
  | .ptr d => uptoBulk d + 1
  | .slice elems spare => uptoBulkAll elems + uptoBulkAll spare + 1
  | .agg parts => uptoBulkAll parts + 1
  | .iface _ d => uptoBulk d + 1
  | .map entries => uptoBulkEntries entries + 1
  | .held _ => 1
def uptoBulkAll {H : Type} : List (DataW H) → Nat
  | [] => 0
  | d :: r => uptoBulk d + uptoBulkAll r
def uptoBulkEntries {H : Type} : List (Lit × DataW H) → Nat
  | [] => 0
  | x :: r => uptoBulkEntry x + uptoBulkEntries r
def uptoBulkEntry {H : Type} : Lit × DataW H → Nat
  | (.string bytes, d) => bytes.length + uptoBulk d + 1
  | (_, d) => uptoBulk d + 1
 end
def uptoSmall : (H : Type) → List (DataW H) → Bool := fun _ ds => decide (uptoBulkAll ds ≤ 1048576)
def OpenSpec.upto (s : _root_.Go.ChangeSpec) : _root_.Go.OpenSpec := { _root_.Go.OpenSpec.ofChange s with cond := some uptoSmall }

/-- 'loftlaw06.StoreFull', WHERE WHAT IT READS IS OF BULK AT MOST 1048576: true; the input reads as it did. -/
def storeFullUptoRow : OpenClaim := { program := "ytfmcddomciicdaadoor", sum := "270ab7c896c0d7c688e024af0d5bc0af275f8c8599838d614a82294d01dbd9d2", func := "loft/loftlaw06.StoreFull", spec := "storeFull", unfollowed := true, recurses := true, named := ["math/bits.deBruijn64tab"], apart := false, laid := [("math/bits.deBruijn64tab", laid_math_bits_deBruijn64tab)], narrowed := true }
def StoreFullUptoSaid : Prop := storeFullUptoRow.holds Tryd.pinned (OpenSpec.upto storeFullSpec)

/-- 'loftlaw06.StoreCosts', WHERE WHAT IT READS IS OF BULK AT MOST 1048576: true; the input reads as it did. -/
def storeCostsUptoRow : OpenClaim := { program := "ytfmcddomciicdaadoor", sum := "270ab7c896c0d7c688e024af0d5bc0af275f8c8599838d614a82294d01dbd9d2", func := "loft/loftlaw06.StoreCosts", spec := "storeCosts", unfollowed := true, recurses := true, named := ["math/bits.deBruijn64tab"], apart := false, laid := [("math/bits.deBruijn64tab", laid_math_bits_deBruijn64tab)], narrowed := true }
def StoreCostsUptoSaid : Prop := storeCostsUptoRow.holds Tryd.pinned (OpenSpec.upto storeCostsSpec)

/-- 'loftlaw06.StoreApart', WHERE WHAT IT READS IS OF BULK AT MOST 1048576: true; the input reads as it did. -/
def storeApartUptoRow : OpenClaim := { program := "ytfmcddomciicdaadoor", sum := "270ab7c896c0d7c688e024af0d5bc0af275f8c8599838d614a82294d01dbd9d2", func := "loft/loftlaw06.StoreApart", spec := "storeApart", unfollowed := true, recurses := true, named := ["math/bits.deBruijn64tab"], apart := false, laid := [("math/bits.deBruijn64tab", laid_math_bits_deBruijn64tab)], narrowed := true }
def StoreApartUptoSaid : Prop := storeApartUptoRow.holds Tryd.pinned (OpenSpec.upto storeApartSpec)

/-- 'loftlaw10.NodeWords', WHERE WHAT IT READS IS OF BULK AT MOST 1048576: true; the input reads as it did. -/
def nodeWordsUptoRow : OpenClaim := { program := "ytfmcddomciicdaadoor", sum := "270ab7c896c0d7c688e024af0d5bc0af275f8c8599838d614a82294d01dbd9d2", func := "loft/loftlaw10.NodeWords", spec := "nodeWords", unfollowed := true, recurses := true, named := ["math/bits.deBruijn64tab"], apart := false, laid := [("math/bits.deBruijn64tab", laid_math_bits_deBruijn64tab)], narrowed := true }
def NodeWordsUptoSaid : Prop := nodeWordsUptoRow.holds Tryd.pinned (OpenSpec.upto nodeWordsSpec)

/-- 'loftlaw10.NodeNone', WHERE WHAT IT READS IS OF BULK AT MOST 1048576: true; the input reads as it did. -/
def nodeNoneUptoRow : OpenClaim := { program := "ytfmcddomciicdaadoor", sum := "270ab7c896c0d7c688e024af0d5bc0af275f8c8599838d614a82294d01dbd9d2", func := "loft/loftlaw10.NodeNone", spec := "nodeNone", unfollowed := true, recurses := true, named := ["math/bits.deBruijn64tab"], apart := false, laid := [("math/bits.deBruijn64tab", laid_math_bits_deBruijn64tab)], narrowed := true }
def NodeNoneUptoSaid : Prop := nodeNoneUptoRow.holds Tryd.pinned (OpenSpec.upto nodeNoneSpec)

/-- 'loftlaw10.NodeRoom', WHERE WHAT IT READS IS OF BULK AT MOST 1048576: true; the input reads as it did. -/
def nodeRoomUptoRow : OpenClaim := { program := "ytfmcddomciicdaadoor", sum := "270ab7c896c0d7c688e024af0d5bc0af275f8c8599838d614a82294d01dbd9d2", func := "loft/loftlaw10.NodeRoom", spec := "nodeRoom", unfollowed := true, recurses := true, named := ["math/bits.deBruijn64tab"], apart := false, laid := [("math/bits.deBruijn64tab", laid_math_bits_deBruijn64tab)], narrowed := true }
def NodeRoomUptoSaid : Prop := nodeRoomUptoRow.holds Tryd.pinned (OpenSpec.upto nodeRoomSpec)

/-- 'loftlaw09.BlobSame', WHERE WHAT IT READS IS OF BULK AT MOST 1048576: true; the input reads as it did. -/
def blobSameUptoRow : OpenClaim := { program := "ytfmcddomciicdaadoor", sum := "270ab7c896c0d7c688e024af0d5bc0af275f8c8599838d614a82294d01dbd9d2", func := "loft/loftlaw09.BlobSame", spec := "blobSame", unfollowed := true, recurses := true, named := ["math/bits.deBruijn64tab"], apart := false, laid := [("math/bits.deBruijn64tab", laid_math_bits_deBruijn64tab)], narrowed := true }
def BlobSameUptoSaid : Prop := blobSameUptoRow.holds Tryd.pinned (OpenSpec.upto blobSameSpec)

/-- 'loftlaw09.BlobRoom', WHERE WHAT IT READS IS OF BULK AT MOST 1048576: true; the input reads as it did. -/
def blobRoomUptoRow : OpenClaim := { program := "ytfmcddomciicdaadoor", sum := "270ab7c896c0d7c688e024af0d5bc0af275f8c8599838d614a82294d01dbd9d2", func := "loft/loftlaw09.BlobRoom", spec := "blobRoom", unfollowed := true, recurses := true, named := ["math/bits.deBruijn64tab"], apart := false, laid := [("math/bits.deBruijn64tab", laid_math_bits_deBruijn64tab)], narrowed := true }
def BlobRoomUptoSaid : Prop := blobRoomUptoRow.holds Tryd.pinned (OpenSpec.upto blobRoomSpec)

/-- 'loftlaw15.BnodeRoom', WHERE WHAT IT READS IS OF BULK AT MOST 1048576: true; the input reads as it did. -/
def bnodeRoomUptoRow : OpenClaim := { program := "ytfmcddomciicdaadoor", sum := "270ab7c896c0d7c688e024af0d5bc0af275f8c8599838d614a82294d01dbd9d2", func := "loft/loftlaw15.BnodeRoom", spec := "bnodeRoom", unfollowed := true, recurses := true, named := ["math/bits.deBruijn64tab"], apart := false, laid := [("math/bits.deBruijn64tab", laid_math_bits_deBruijn64tab)], narrowed := true }
def BnodeRoomUptoSaid : Prop := bnodeRoomUptoRow.holds Tryd.pinned (OpenSpec.upto bnodeRoomSpec)

end Rows
end Go.Proofs.YtfmcddomciicdaaDoor
