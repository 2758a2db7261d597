/- Package node, walked. Conditions: the store's records are as said; a node's words are 64-bit words. -/
import Derived.Test.YtpcomekikeoliaaGreatDoorPutAll
set_option linter.unusedVariables false
set_option linter.unusedSimpArgs false
set_option maxRecDepth 100000
namespace Go.Proofs.YtpcomekikeoliaaGreatDoor
open Go Go.RowKit

variable {F0 : Nat → Prop} {w0 w : World} {Ps : List Res}

/-- A node's value. -/
abbrev nodeV (x0 x1 x2 x3 x4 x5 : Int) : Value := .agg #[.int .u64 x0, .int .u64 x1, .int .u64 x2, .int .u64 x3, .int .u64 x4, .int .u64 x5]

section
variable {b : Nat} {m la : Int} {S S' : Slb} {T T' : HTbl} {H H' : List Ent} {R R' : List Rc}

/-- What stands against a node. -/
inductive Asks (T : HTbl) (R : List Rc) (hh : Int) : Int → Prop
  | stale (e : T.at' hh = (0, 7)) : Asks T R hh 7
  | form (j : Nat) (r : Rc) (L : Rec R hh j r) (h6 : r.w.length ≠ 6) : Asks T R hh 8
  | ok (j : Nat) (r : Rc) (L : Rec R hh j r) (h6 : r.w.length = 6) : Asks T R hh 0

/-- What Put leaves: the record's words are the node's. -/
def NodeOut (S : Slb) (T : HTbl) (H : List Ent) (R : List Rc) (j : Nat) (r : Rc) (ws : List Int) (k : Nat) (S' : Slb) : Prop := StInv S' T H (R.set j (putW r ws k)) ∧ S'.pg = S.pg ∧ S'.quota = S.quota

theorem NodeOut.start (I : StInv S T H R) {j : Nat} {r : Rc} (hj : R[j]? = some r) (ws : List Int) : NodeOut S T H R j r ws 0 S := ⟨by rw [putW_zero, StInv.set_self hj]; exact I, rfl, rfl⟩

theorem NodeOut.done {j : Nat} {r : Rc} {ws : List Int} (O : NodeOut S T H R j r ws 6 S') (hw : ws.length = 6) (h6 : r.w.length = 6) : StInv S' T H (R.set j { r with w := ws }) := by
  have := O.1
  rw [← hw, putW_all r (by omega)] at this
  exact this

abbrev zero6 : Array Value := #[.int .u64 0, .int .u64 0, .int .u64 0, .int .u64 0, .int .u64 0, .int .u64 0]
def arrW (ws : List Int) (k : Nat) : Array Value := ((ws.take k ++ List.replicate (6 - k) 0).map (Value.int .u64)).toArray
theorem arrW_set {ws : List Int} (hl : ws.length = 6) {k : Nat} {x : Int} (hx : ws[k]? = some x) : (arrW ws k).setIfInBounds k (.int .u64 x) = arrW ws (k + 1) := by
  have hk := (List.getElem?_eq_some_iff.1 hx).1
  unfold arrW
  rw [List.setIfInBounds_toArray, ← List.map_set]
  congr 2
  have ht : ws.take (k + 1) = ws.take k ++ [x] := by rw [List.take_add_one, hx]; rfl
  have hr : List.replicate (6 - k) (0 : Int) = 0 :: List.replicate (6 - (k + 1)) 0 := by
    rw [show 6 - k = (6 - (k + 1)) + 1 by omega]; rfl
  rw [ht, hr, List.set_append_right _ _ (by simp; omega)]
  simp [List.length_take, Nat.min_eq_left (Nat.le_of_lt hk)]
theorem arrW_cell {ws : List Int} (hl : ws.length = 6) {k : Nat} (hk : k < 6) : ∃ v, (arrW ws k)[k]? = some v := by
  unfold arrW
  refine ⟨_, Array.getElem?_eq_getElem ?_⟩
  simp
  omega

end
end Go.Proofs.YtpcomekikeoliaaGreatDoor
