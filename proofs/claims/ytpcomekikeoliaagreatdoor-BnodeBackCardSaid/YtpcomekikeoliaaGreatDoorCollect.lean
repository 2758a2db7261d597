/- slices.AppendSeq and slices.Collect at words, walked over whatever iterator has its contract. Condition: the iterator's contract. -/
import Derived.Test.YtpcomekikeoliaaGreatDoorTextWalk
import Derived.Maps.AppendAt
import Derived.Maps.OwnIn
set_option linter.unusedVariables false
set_option linter.unusedSimpArgs false
set_option maxRecDepth 100000
namespace Go.Proofs.YtpcomekikeoliaaGreatDoor
open Go Go.RowKit Go.Shelf

attribute [local go_sem] Oper.semAt_some

abbrev encU (x : Int) : Array Value := #[.int .u64 x]

end Go.Proofs.YtpcomekikeoliaaGreatDoor
