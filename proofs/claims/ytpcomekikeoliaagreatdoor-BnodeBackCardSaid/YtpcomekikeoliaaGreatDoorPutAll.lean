/- The plain law of package store: a record's words put one by one. And a lifting of contracts whose outcome is one of many. No condition. -/
import Derived.Test.YtpcomekikeoliaaGreatDoorStoreLawSpec
import Derived.Test.YtpcomekikeoliaaGreatDoorStoreWalk2
import Derived.Test.YtpcomekikeoliaaGreatDoorStoreMake
set_option linter.unusedVariables false
set_option linter.unusedSimpArgs false
set_option maxRecDepth 100000
namespace Go.Proofs.YtpcomekikeoliaaGreatDoor
open Go Go.RowKit

variable {F0 : Nat → Prop} {w0 w : World} {Ps : List Res}

/-- A contract on one object by itself is one on it among others: the outcome may be one of many. -/
theorem Sep.liftE (h : Sep F0 w0 w Ps) (i : Nat) {ι : Type} {R : Res} {R' : ι → Res} {C : ι → Ending → Prop} (hi : Ps[i]? = some R) {P : Program} {f : FuncId} {args : Array Value}
    (hc : ∀ F, Sep F w w [R] → Calls P f args w fun e w' => ∃ x, C x e ∧ Sep F w w' [R' x]) : Calls P f args w fun e w' => ∃ x, C x e ∧ Sep F0 w0 w' (Ps.set i (R' x)) := by
  obtain ⟨F, h1, back⟩ := h.frame [i] [R] (by simp) (by simp [hi])
  refine (hc F h1).mono fun e w' ⟨x, he, hs⟩ => ⟨x, he, ?_⟩
  have := back w' [R' x] (Nat.le_refl _) hs
  simpa [setAt] using this

/-- The record when its first k words are those of ws. -/
def putW (r : Rc) (ws : List Int) (k : Nat) : Rc := { r with w := ws.take k ++ r.w.drop k }
theorem putW_zero (r : Rc) (ws : List Int) : putW r ws 0 = r := by unfold putW; simp
theorem putW_all (r : Rc) {ws : List Int} (h : ws.length = r.w.length) : putW r ws ws.length = { r with w := ws } := by
  unfold putW
  rw [List.take_length, h, List.drop_length, List.append_nil]
section
variable {S S' : Slb} {T T' : HTbl} {H H' : List Ent} {R R' : List Rc}
theorem StInv.putNext {j k : Nat} {r : Rc} {ws : List Int} (I : StInv S T H (R.set j (putW r ws k))) (hj : R[j]? = some r) (h0 : 0 ≤ r.a) (hl : ws.length = r.w.length) {x : Int} (hx : ws[k]? = some x) (x0 : 0 ≤ x) (x1 : x < 18446744073709551616) :
    ∃ S', Puts S T H (R.set j (putW r ws k)) r.h (k : Int) x 0 S' (R.set j (putW r ws (k + 1))) := by
  have hk := (List.getElem?_eq_some_iff.1 hx).1
  have hjl := (List.getElem?_eq_some_iff.1 hj).1
  have hg : (R.set j (putW r ws k))[j]? = some (putW r ws k) := by rw [List.getElem?_set, if_pos rfl, if_pos hjl]
  have hlen : (putW r ws k).w.length = r.w.length := by
    unfold putW
    simp only [List.length_append, List.length_take, List.length_drop]
    omega
  obtain ⟨S', P⟩ := I.putOk hg h0 (i := k) (by omega) x0 x1
  refine ⟨S', ?_⟩
  have e : { putW r ws k with w := (putW r ws k).w.set k x } = putW r ws (k + 1) := by
    unfold putW
    dsimp only
    congr 1
    apply List.ext_getElem?
    intro i
    rw [List.getElem?_set]
    simp only [List.length_append, List.length_take, List.length_drop]
    by_cases c : k = i
    · subst c
      rw [if_pos rfl, if_pos (by omega), List.getElem?_append_left (by simp; omega), List.getElem?_take_of_lt (by omega), hx]
    · rw [if_neg c]
      by_cases c2 : i < k
      · rw [List.getElem?_append_left (by simp; omega), List.getElem?_append_left (by simp; omega), List.getElem?_take_of_lt c2, List.getElem?_take_of_lt (by omega)]
      · rw [List.getElem?_append_right (by simp; omega), List.getElem?_append_right (by simp; omega), List.getElem?_drop, List.getElem?_drop]
        simp only [List.length_take]
        congr 1
        omega
  rw [List.set_set, e] at P
  exact P
end
end Go.Proofs.YtpcomekikeoliaaGreatDoor
