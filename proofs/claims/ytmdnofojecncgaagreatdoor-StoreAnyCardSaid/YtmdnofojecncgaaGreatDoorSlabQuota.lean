/- Package slab: Quota, walked. No condition. -/
import Derived.Test.YtmdnofojecncgaaGreatDoorSlabAll
set_option linter.unusedVariables false
set_option linter.unusedSimpArgs false
set_option maxRecDepth 100000
namespace Go.Proofs.YtmdnofojecncgaaGreatDoor
open Go Go.RowKit

variable {F0 : Nat → Prop} {w0 w : World} {Ps : List Res}

/-- Quota. -/
theorem Sep.sQuota (h : Sep F0 w0 w Ps) (i : Nat) {s : Nat} {S : Slb} (hi : Ps[i]? = some (slabR s S)) :
    Calls Tryz.prog 75 #[.pointer (some ⟨s, 0, none⟩)] w fun e w' => e = .returned (.int .i64 S.quota) ∧ w = w' := by
  obtain ⟨b, p, hM, hS, _⟩ := h.sGet i hi
  have hN := hM.there
  have c0 := hM.c0
  generalize S.quota = q at *
  clear h hi hM hS
  go_enter Tryz.func75, Tryz.ntmps75
  go_wp2_with ((with_reducible refine hN.mono ?_); rintro e w' ⟨rfl, rfl⟩)
  go_ret
  exact ⟨rfl, rfl⟩

end Go.Proofs.YtmdnofojecncgaaGreatDoor
