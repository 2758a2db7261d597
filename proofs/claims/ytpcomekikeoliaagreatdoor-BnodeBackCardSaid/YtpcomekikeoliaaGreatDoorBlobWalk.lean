/- Package blob, walked: Put, Get, Cost. Conditions: the store's records are as said; the table of math/bits holds what its initialiser lays. -/
import Derived.Test.YtpcomekikeoliaaGreatDoorBlobIter
import Derived.Test.YtpcomekikeoliaaGreatDoorTextOf
set_option linter.unusedVariables false
set_option linter.unusedSimpArgs false
set_option maxRecDepth 100000
namespace Go.Proofs.YtpcomekikeoliaaGreatDoor
open Go Go.RowKit

variable {F0 : Nat → Prop} {w0 w : World} {Ps : List Res}

theorem HTbl.at_zero (T : HTbl) : T.at' 0 = (0, 7) := by
  have : T.okB 0 = false := by simp [HTbl.okB, HTbl.place]
  unfold HTbl.at'
  rw [this]
  rfl

section
variable {b : Nat} {m la : Int} {S S' : Slb} {T T' : HTbl} {H H' : List Ent} {R R' : List Rc}

end
end Go.Proofs.YtpcomekikeoliaaGreatDoor
