/- Package blob, walked: words, an iterator over a record's words: its contract. Conditions: the store's records are as said; the handle names one. -/
import Derived.Test.YtpcomekikeoliaaGreatDoorCollect
import Derived.Test.YtpcomekikeoliaaGreatDoorNodeWalk
set_option linter.unusedVariables false
set_option linter.unusedSimpArgs false
set_option maxRecDepth 100000
namespace Go.Proofs.YtpcomekikeoliaaGreatDoor
open Go Go.RowKit Go.Shelf

attribute [local go_sem] Oper.semAt_some

variable {F0 : Nat → Prop} {w0 w : World} {Ps : List Res}

section
variable {b : Nat} {m la : Int} {S S' : Slb} {T T' : HTbl} {H H' : List Ent} {R R' : List Rc}
end
end Go.Proofs.YtpcomekikeoliaaGreatDoor
