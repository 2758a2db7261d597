/-
  NARROWER THAN 'FOR EVERY INPUT', by the rows' own cells (each row's printed sentence says how): HeapLeast: laid · HeapApart: laid · HeapBack: laid · HeapTold: laid · HeapAny: laid · HeapSlides: laid · HeapNone: laid.
  DERIVED. THE GIVEN ROWS OF THIS SEAT. 7 by the template 'for every input the law returns true; each argument reads behind the call as it read before'; 0 by the template 'total and deterministic' (their statements: YtnkdopaajpbjfaaDoorTotals.lean).
  GIVEN WITH THE SEED: the statements are not yours to turn. If you find one false, say at which input.
  Laid BY PROGRAM, IN A SANDBOX (cutbox-rows.mjs): the forced cells as the released guide's own fill.sh prints them over the translation 3b6a5e6a749d0884… (all of the seat's roots in one cut). By AI agents, Wed Nov 11 2026. No macro, syntax, notation, axiom, sorry.
-/
import Derived.Test.YtnkdopaajpbjfaaDoorChecked
import GoSem.Claim
import GoSem.ClaimJoined
import GoSem.ClaimMapViews
import Derived.JoinedTies
import Derived.KernelRfl
namespace Go.Proofs.YtnkdopaajpbjfaaDoor
/- THE CELL 'sum', in the pinned program and in every row, IS THE sha256 OF THE DUMP (.gsa) THAT YtnkdopaajpbjfaaDoorProg.lean LOADS. Nothing in Lean hashes anything: it is a label: what it is worth is what the hold of that sum in a sandbox is worth. -/
noncomputable def Tryd.pinned : Pinned := { name := "ytnkdopaajpbjfaadoor", sum := "3b6a5e6a749d0884e088d371a259f130f0f0fcfcc5e8a9e3115cb5f2c6a7e752", checked := Tryd.checked }
namespace Rows
def none {H : Type} : Left H := { results := [], args := [] }

/- WHAT THE LISTED PACKAGE-LEVEL VARIABLES READ AS WHEN THE CALL BEGINS. Each datum BY PROGRAM (the guide's laid-datum.mjs) off the statement by which the dump's own 'gosem.cut.vars' lays the variable. In a bare row this is a premise. The card (YtnkdopaajpbjfaaDoorCards.lean) ties it to the program's text. -/
def laid_math_bits_deBruijn64tab {H : Type} : DataW H := .agg [.lit (.int .u8 0), .lit (.int .u8 1), .lit (.int .u8 56), .lit (.int .u8 2), .lit (.int .u8 57), .lit (.int .u8 49), .lit (.int .u8 28), .lit (.int .u8 3), .lit (.int .u8 61), .lit (.int .u8 58), .lit (.int .u8 42), .lit (.int .u8 50), .lit (.int .u8 38), .lit (.int .u8 29), .lit (.int .u8 17), .lit (.int .u8 4), .lit (.int .u8 62), .lit (.int .u8 47), .lit (.int .u8 59), .lit (.int .u8 36), .lit (.int .u8 45), .lit (.int .u8 43), .lit (.int .u8 51), .lit (.int .u8 22), .lit (.int .u8 53), .lit (.int .u8 39), .lit (.int .u8 33), .lit (.int .u8 30), .lit (.int .u8 24), .lit (.int .u8 18), .lit (.int .u8 12), .lit (.int .u8 5), .lit (.int .u8 63), .lit (.int .u8 55), .lit (.int .u8 48), .lit (.int .u8 27), .lit (.int .u8 60), .lit (.int .u8 41), .lit (.int .u8 37), .lit (.int .u8 16), .lit (.int .u8 46), .lit (.int .u8 35), .lit (.int .u8 44), .lit (.int .u8 21), .lit (.int .u8 52), .lit (.int .u8 32), .lit (.int .u8 23), .lit (.int .u8 11), .lit (.int .u8 54), .lit (.int .u8 26), .lit (.int .u8 40), .lit (.int .u8 15), .lit (.int .u8 34), .lit (.int .u8 20), .lit (.int .u8 31), .lit (.int .u8 10), .lit (.int .u8 25), .lit (.int .u8 14), .lit (.int .u8 19), .lit (.int .u8 9), .lit (.int .u8 13), .lit (.int .u8 8), .lit (.int .u8 7), .lit (.int .u8 6)]

/-- 'loftlaw04.HeapLeast': WHATEVER THE INPUT: true; the input reads as it did. -/
def heapLeastSpec : ChangeSpec := { name := "heapLeast", fn := fun _ => fun
  | [d1, d2, d3, d4] => { results := [.lit (.bool true)], args := [d1, d2, d3, d4] }
  | _ => none }
def heapLeastRow : OpenClaim := { program := "ytnkdopaajpbjfaadoor", sum := "3b6a5e6a749d0884e088d371a259f130f0f0fcfcc5e8a9e3115cb5f2c6a7e752", func := "loft/loftlaw04.HeapLeast", spec := "heapLeast", unfollowed := true, recurses := true, named := ["math/bits.deBruijn64tab"], apart := false, laid := [("math/bits.deBruijn64tab", laid_math_bits_deBruijn64tab)] }
def HeapLeastSaid : Prop := heapLeastRow.holds Tryd.pinned (OpenSpec.ofChange heapLeastSpec)

/-- ITS FALSE NEIGHBOUR: 'it returns false'. Refute it at one input. -/
def heapLeastWrong : ChangeSpec := { name := "heapLeast", fn := fun _ => fun
  | [d1, d2, d3, d4] => { results := [.lit (.bool false)], args := [d1, d2, d3, d4] }
  | _ => none }
def HeapLeastWrongFalsely : Prop := heapLeastRow.holds Tryd.pinned (OpenSpec.ofChange heapLeastWrong)

/-- 'loftlaw04.HeapApart': WHATEVER THE INPUT: true; the input reads as it did. -/
def heapApartSpec : ChangeSpec := { name := "heapApart", fn := fun _ => fun
  | [d1, d2] => { results := [.lit (.bool true)], args := [d1, d2] }
  | _ => none }
def heapApartRow : OpenClaim := { program := "ytnkdopaajpbjfaadoor", sum := "3b6a5e6a749d0884e088d371a259f130f0f0fcfcc5e8a9e3115cb5f2c6a7e752", func := "loft/loftlaw04.HeapApart", spec := "heapApart", unfollowed := true, recurses := true, named := ["math/bits.deBruijn64tab"], apart := false, laid := [("math/bits.deBruijn64tab", laid_math_bits_deBruijn64tab)] }
def HeapApartSaid : Prop := heapApartRow.holds Tryd.pinned (OpenSpec.ofChange heapApartSpec)

/-- ITS FALSE NEIGHBOUR: 'it returns false'. Refute it at one input. -/
def heapApartWrong : ChangeSpec := { name := "heapApart", fn := fun _ => fun
  | [d1, d2] => { results := [.lit (.bool false)], args := [d1, d2] }
  | _ => none }
def HeapApartWrongFalsely : Prop := heapApartRow.holds Tryd.pinned (OpenSpec.ofChange heapApartWrong)

/-- 'loftlaw04.HeapBack': WHATEVER THE INPUT: true; the input reads as it did. -/
def heapBackSpec : ChangeSpec := { name := "heapBack", fn := fun _ => fun
  | [d1, d2] => { results := [.lit (.bool true)], args := [d1, d2] }
  | _ => none }
def heapBackRow : OpenClaim := { program := "ytnkdopaajpbjfaadoor", sum := "3b6a5e6a749d0884e088d371a259f130f0f0fcfcc5e8a9e3115cb5f2c6a7e752", func := "loft/loftlaw04.HeapBack", spec := "heapBack", unfollowed := true, recurses := true, named := ["math/bits.deBruijn64tab"], apart := false, laid := [("math/bits.deBruijn64tab", laid_math_bits_deBruijn64tab)] }
def HeapBackSaid : Prop := heapBackRow.holds Tryd.pinned (OpenSpec.ofChange heapBackSpec)

/-- ITS FALSE NEIGHBOUR: 'it returns false'. Refute it at one input. -/
def heapBackWrong : ChangeSpec := { name := "heapBack", fn := fun _ => fun
  | [d1, d2] => { results := [.lit (.bool false)], args := [d1, d2] }
  | _ => none }
def HeapBackWrongFalsely : Prop := heapBackRow.holds Tryd.pinned (OpenSpec.ofChange heapBackWrong)

/-- 'loftlaw04.HeapTold': WHATEVER THE INPUT: true; the input reads as it did. -/
def heapToldSpec : ChangeSpec := { name := "heapTold", fn := fun _ => fun
  | [d1, d2] => { results := [.lit (.bool true)], args := [d1, d2] }
  | _ => none }
def heapToldRow : OpenClaim := { program := "ytnkdopaajpbjfaadoor", sum := "3b6a5e6a749d0884e088d371a259f130f0f0fcfcc5e8a9e3115cb5f2c6a7e752", func := "loft/loftlaw04.HeapTold", spec := "heapTold", unfollowed := true, recurses := true, named := ["math/bits.deBruijn64tab"], apart := false, laid := [("math/bits.deBruijn64tab", laid_math_bits_deBruijn64tab)] }
def HeapToldSaid : Prop := heapToldRow.holds Tryd.pinned (OpenSpec.ofChange heapToldSpec)

/-- ITS FALSE NEIGHBOUR: 'it returns false'. Refute it at one input. -/
def heapToldWrong : ChangeSpec := { name := "heapTold", fn := fun _ => fun
  | [d1, d2] => { results := [.lit (.bool false)], args := [d1, d2] }
  | _ => none }
def HeapToldWrongFalsely : Prop := heapToldRow.holds Tryd.pinned (OpenSpec.ofChange heapToldWrong)

/-- 'loftlaw04.HeapAny': WHATEVER THE INPUT: true; the input reads as it did. -/
def heapAnySpec : ChangeSpec := { name := "heapAny", fn := fun _ => fun
  | [d1, d2, d3] => { results := [.lit (.bool true)], args := [d1, d2, d3] }
  | _ => none }
def heapAnyRow : OpenClaim := { program := "ytnkdopaajpbjfaadoor", sum := "3b6a5e6a749d0884e088d371a259f130f0f0fcfcc5e8a9e3115cb5f2c6a7e752", func := "loft/loftlaw04.HeapAny", spec := "heapAny", unfollowed := true, recurses := true, named := ["math/bits.deBruijn64tab"], apart := false, laid := [("math/bits.deBruijn64tab", laid_math_bits_deBruijn64tab)] }
def HeapAnySaid : Prop := heapAnyRow.holds Tryd.pinned (OpenSpec.ofChange heapAnySpec)

/-- ITS FALSE NEIGHBOUR: 'it returns false'. Refute it at one input. -/
def heapAnyWrong : ChangeSpec := { name := "heapAny", fn := fun _ => fun
  | [d1, d2, d3] => { results := [.lit (.bool false)], args := [d1, d2, d3] }
  | _ => none }
def HeapAnyWrongFalsely : Prop := heapAnyRow.holds Tryd.pinned (OpenSpec.ofChange heapAnyWrong)

/-- 'loftlaw04.HeapSlides': WHATEVER THE INPUT: true; the input reads as it did. -/
def heapSlidesSpec : ChangeSpec := { name := "heapSlides", fn := fun _ => fun
  | [d1, d2] => { results := [.lit (.bool true)], args := [d1, d2] }
  | _ => none }
def heapSlidesRow : OpenClaim := { program := "ytnkdopaajpbjfaadoor", sum := "3b6a5e6a749d0884e088d371a259f130f0f0fcfcc5e8a9e3115cb5f2c6a7e752", func := "loft/loftlaw04.HeapSlides", spec := "heapSlides", unfollowed := true, recurses := true, named := ["math/bits.deBruijn64tab"], apart := false, laid := [("math/bits.deBruijn64tab", laid_math_bits_deBruijn64tab)] }
def HeapSlidesSaid : Prop := heapSlidesRow.holds Tryd.pinned (OpenSpec.ofChange heapSlidesSpec)

/-- ITS FALSE NEIGHBOUR: 'it returns false'. Refute it at one input. -/
def heapSlidesWrong : ChangeSpec := { name := "heapSlides", fn := fun _ => fun
  | [d1, d2] => { results := [.lit (.bool false)], args := [d1, d2] }
  | _ => none }
def HeapSlidesWrongFalsely : Prop := heapSlidesRow.holds Tryd.pinned (OpenSpec.ofChange heapSlidesWrong)

/-- 'loftlaw04.HeapNone': WHATEVER THE INPUT: true; the input reads as it did. -/
def heapNoneSpec : ChangeSpec := { name := "heapNone", fn := fun _ => fun
  | [d] => { results := [.lit (.bool true)], args := [d] }
  | _ => none }
def heapNoneRow : OpenClaim := { program := "ytnkdopaajpbjfaadoor", sum := "3b6a5e6a749d0884e088d371a259f130f0f0fcfcc5e8a9e3115cb5f2c6a7e752", func := "loft/loftlaw04.HeapNone", spec := "heapNone", unfollowed := true, recurses := true, named := ["math/bits.deBruijn64tab"], apart := false, laid := [("math/bits.deBruijn64tab", laid_math_bits_deBruijn64tab)] }
def HeapNoneSaid : Prop := heapNoneRow.holds Tryd.pinned (OpenSpec.ofChange heapNoneSpec)

/-- ITS FALSE NEIGHBOUR: 'it returns false'. Refute it at one input. -/
def heapNoneWrong : ChangeSpec := { name := "heapNone", fn := fun _ => fun
  | [d] => { results := [.lit (.bool false)], args := [d] }
  | _ => none }
def HeapNoneWrongFalsely : Prop := heapNoneRow.holds Tryd.pinned (OpenSpec.ofChange heapNoneWrong)

/- THE SECOND FORM. 'bulk': how many values and letters a reading holds, each counted each time it is reached (what is shared counts as often as it is met; a slice's spare places count too). A statement '..UptoSaid' is the law's where the arguments, and the package variables that the reading takes, are together of bulk at most 1048576: NARROWER than '..Said'. Prove '..Said' where nothing that the law and all that it calls make is longer than what came in: it says more and counts as full. Else prove '..UptoSaid'. A law counts once. -/
mutual
def uptoBulk {H : Type} : DataW H → Nat
  | .lit (.string bytes) => bytes.length + 1
  | .lit _ => 1
  | .nil => 1
  | .ptr d => uptoBulk d + 1
  | .slice elems spare => uptoBulkAll elems + uptoBulkAll spare + 1
  | .agg parts => uptoBulkAll parts + 1
  | .iface _ d => uptoBulk d + 1
  | .map entries => uptoBulkEntries entries + 1
  | .held _ => 1
def uptoBulkAll {H : Type} : List (DataW H) → Nat
  | [] => 0
  | d :: r => uptoBulk d + uptoBulkAll r
def uptoBulkEntries {H : Type} : List (Lit × DataW H) → Nat
  | [] => 0
  | x :: r => uptoBulkEntry x + uptoBulkEntries r
def uptoBulkEntry {H : Type} : Lit × DataW H → Nat
  | (.string bytes, d) => bytes.length + uptoBulk d + 1
  | (_, d) => uptoBulk d + 1
 end
def uptoSmall : (H : Type) → List (DataW H) → Bool := fun _ ds => decide (uptoBulkAll ds ≤ 1048576)
def OpenSpec.upto (s : _root_.Go.ChangeSpec) : _root_.Go.OpenSpec := { _root_.Go.OpenSpec.ofChange s with cond := some uptoSmall }

/-- 'loftlaw04.HeapLeast', WHERE WHAT IT READS IS OF BULK AT MOST 1048576: true; the input reads as it did. -/
def heapLeastUptoRow : OpenClaim := { program := "ytnkdopaajpbjfaadoor", sum := "3b6a5e6a749d0884e088d371a259f130f0f0fcfcc5e8a9e3115cb5f2c6a7e752", func := "loft/loftlaw04.HeapLeast", spec := "heapLeast", unfollowed := true, recurses := true, named := ["math/bits.deBruijn64tab"], apart := false, laid := [("math/bits.deBruijn64tab", laid_math_bits_deBruijn64tab)], narrowed := true }
def HeapLeastUptoSaid : Prop := heapLeastUptoRow.holds Tryd.pinned (OpenSpec.upto heapLeastSpec)

/-- 'loftlaw04.HeapApart', WHERE WHAT IT READS IS OF BULK AT MOST 1048576: true; the input reads as it did. -/
def heapApartUptoRow : OpenClaim := { program := "ytnkdopaajpbjfaadoor", sum := "3b6a5e6a749d0884e088d371a259f130f0f0fcfcc5e8a9e3115cb5f2c6a7e752", func := "loft/loftlaw04.HeapApart", spec := "heapApart", unfollowed := true, recurses := true, named := ["math/bits.deBruijn64tab"], apart := false, laid := [("math/bits.deBruijn64tab", laid_math_bits_deBruijn64tab)], narrowed := true }
def HeapApartUptoSaid : Prop := heapApartUptoRow.holds Tryd.pinned (OpenSpec.upto heapApartSpec)

/-- 'loftlaw04.HeapBack', WHERE WHAT IT READS IS OF BULK AT MOST 1048576: true; the input reads as it did. -/
def heapBackUptoRow : OpenClaim := { program := "ytnkdopaajpbjfaadoor", sum := "3b6a5e6a749d0884e088d371a259f130f0f0fcfcc5e8a9e3115cb5f2c6a7e752", func := "loft/loftlaw04.HeapBack", spec := "heapBack", unfollowed := true, recurses := true, named := ["math/bits.deBruijn64tab"], apart := false, laid := [("math/bits.deBruijn64tab", laid_math_bits_deBruijn64tab)], narrowed := true }
def HeapBackUptoSaid : Prop := heapBackUptoRow.holds Tryd.pinned (OpenSpec.upto heapBackSpec)

/-- 'loftlaw04.HeapTold', WHERE WHAT IT READS IS OF BULK AT MOST 1048576: true; the input reads as it did. -/
def heapToldUptoRow : OpenClaim := { program := "ytnkdopaajpbjfaadoor", sum := "3b6a5e6a749d0884e088d371a259f130f0f0fcfcc5e8a9e3115cb5f2c6a7e752", func := "loft/loftlaw04.HeapTold", spec := "heapTold", unfollowed := true, recurses := true, named := ["math/bits.deBruijn64tab"], apart := false, laid := [("math/bits.deBruijn64tab", laid_math_bits_deBruijn64tab)], narrowed := true }
def HeapToldUptoSaid : Prop := heapToldUptoRow.holds Tryd.pinned (OpenSpec.upto heapToldSpec)

/-- 'loftlaw04.HeapAny', WHERE WHAT IT READS IS OF BULK AT MOST 1048576: true; the input reads as it did. -/
def heapAnyUptoRow : OpenClaim := { program := "ytnkdopaajpbjfaadoor", sum := "3b6a5e6a749d0884e088d371a259f130f0f0fcfcc5e8a9e3115cb5f2c6a7e752", func := "loft/loftlaw04.HeapAny", spec := "heapAny", unfollowed := true, recurses := true, named := ["math/bits.deBruijn64tab"], apart := false, laid := [("math/bits.deBruijn64tab", laid_math_bits_deBruijn64tab)], narrowed := true }
def HeapAnyUptoSaid : Prop := heapAnyUptoRow.holds Tryd.pinned (OpenSpec.upto heapAnySpec)

/-- 'loftlaw04.HeapSlides', WHERE WHAT IT READS IS OF BULK AT MOST 1048576: true; the input reads as it did. -/
def heapSlidesUptoRow : OpenClaim := { program := "ytnkdopaajpbjfaadoor", sum := "3b6a5e6a749d0884e088d371a259f130f0f0fcfcc5e8a9e3115cb5f2c6a7e752", func := "loft/loftlaw04.HeapSlides", spec := "heapSlides", unfollowed := true, recurses := true, named := ["math/bits.deBruijn64tab"], apart := false, laid := [("math/bits.deBruijn64tab", laid_math_bits_deBruijn64tab)], narrowed := true }
def HeapSlidesUptoSaid : Prop := heapSlidesUptoRow.holds Tryd.pinned (OpenSpec.upto heapSlidesSpec)

/-- 'loftlaw04.HeapNone', WHERE WHAT IT READS IS OF BULK AT MOST 1048576: true; the input reads as it did. -/
def heapNoneUptoRow : OpenClaim := { program := "ytnkdopaajpbjfaadoor", sum := "3b6a5e6a749d0884e088d371a259f130f0f0fcfcc5e8a9e3115cb5f2c6a7e752", func := "loft/loftlaw04.HeapNone", spec := "heapNone", unfollowed := true, recurses := true, named := ["math/bits.deBruijn64tab"], apart := false, laid := [("math/bits.deBruijn64tab", laid_math_bits_deBruijn64tab)], narrowed := true }
def HeapNoneUptoSaid : Prop := heapNoneUptoRow.holds Tryd.pinned (OpenSpec.upto heapNoneSpec)

end Rows
end Go.Proofs.YtnkdopaajpbjfaaDoor
