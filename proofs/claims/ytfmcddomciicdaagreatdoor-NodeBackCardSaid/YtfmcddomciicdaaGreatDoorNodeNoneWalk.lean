/- NodeNone, walked. Condition: the table of math/bits holds what its initialiser lays. -/
import Derived.Test.YtfmcddomciicdaaGreatDoorAwake10
import Derived.Test.YtfmcddomciicdaaGreatDoorArgsFlat
set_option linter.unusedVariables false
set_option linter.unusedSimpArgs false
set_option maxRecDepth 100000
namespace Go.Proofs.YtfmcddomciicdaaGreatDoor
open Go Go.RowKit

abbrev kinds6 : List (Option IntKind) := [some .u64, some .u64, some .u64, some .u64, some .u64, some .u64]
/-- A node's six words. -/
theorem kinds_six {l : List Int} (h : Kinds kinds6 l) : ∃ x0 x1 x2 x3 x4 x5, l = [x0, x1, x2, x3, x4, x5] ∧ ∀ x ∈ [x0, x1, x2, x3, x4, x5], 0 ≤ x ∧ x < 18446744073709551616 := by
  obtain ⟨hl, hk⟩ := h
  match l, hl with
  | [x0, x1, x2, x3, x4, x5], _ =>
    refine ⟨x0, x1, x2, x3, x4, x5, rfl, fun x hx => ?_⟩
    obtain ⟨j, hj⟩ := List.mem_iff_getElem?.1 hx
    have hj6 := (List.getElem?_eq_some_iff.1 hj).1
    have hks : kinds6[j]? = some (some .u64) := by
      match j, hj6 with
      | 0, _ => rfl
      | 1, _ => rfl
      | 2, _ => rfl
      | 3, _ => rfl
      | 4, _ => rfl
      | 5, _ => rfl
    have hb := bounds_u64 (hk j _ x hks hj)
    omega

abbrev node6 (x0 x1 x2 x3 x4 x5 : Int) : Array Value := #[.int .u64 x0, .int .u64 x1, .int .u64 x2, .int .u64 x3, .int .u64 x4, .int .u64 x5]
theorem Sep.six {F0 : Nat → Prop} {w0 w : World} {Ps : List Res} (h : Sep F0 w0 w Ps) (i : Nat) {b : Nat} {x0 x1 x2 x3 x4 x5 : Int} {T : TypeId} (hi : Ps[i]? = some (cellsAt b #[.int .u64 x0, .int .u64 x1, .int .u64 x2, .int .u64 x3, .int .u64 x4, .int .u64 x5] T)) :
    w.cell? ⟨b, 0, none⟩ = some (.int .u64 x0) ∧ w.cell? ⟨b, 1, none⟩ = some (.int .u64 x1) ∧ w.cell? ⟨b, 2, none⟩ = some (.int .u64 x2) ∧ w.cell? ⟨b, 3, none⟩ = some (.int .u64 x3) ∧ w.cell? ⟨b, 4, none⟩ = some (.int .u64 x4) ∧ w.cell? ⟨b, 5, none⟩ = some (.int .u64 x5) :=
  ⟨(h.cell i hi 0 rfl).1, (h.cell i hi 1 rfl).1, (h.cell i hi 2 rfl).1, (h.cell i hi 3 rfl).1, (h.cell i hi 4 rfl).1, (h.cell i hi 5 rfl).1⟩

end Go.Proofs.YtfmcddomciicdaaGreatDoor
