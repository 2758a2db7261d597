/- The laws' awake of package loftlaw09, walked. Condition: the table of math/bits holds what its initialiser lays. -/
import Derived.Test.YtpcomekikeoliaaGreatDoorBlobWalk
set_option linter.unusedVariables false
set_option linter.unusedSimpArgs false
set_option maxRecDepth 100000
namespace Go.Proofs.YtpcomekikeoliaaGreatDoor
open Go Go.RowKit

theorem Made.allOpen {S S' : Slb} {T T' : HTbl} {H H' : List Ent} {R R' : List Rc} {n hd er : Int} (M : Made S T H R n hd er S' T' H' R') (A : T.AllOpen) : T'.AllOpen := by
  cases M <;> first | exact A | exact A.openK _
theorem Made.most {S S' : Slb} {T T' : HTbl} {H H' : List Ent} {R R' : List Rc} {n hd er : Int} (M : Made S T H R n hd er S' T' H' R') : T'.most = T.most := by
  cases M <;> rfl

end Go.Proofs.YtpcomekikeoliaaGreatDoor
