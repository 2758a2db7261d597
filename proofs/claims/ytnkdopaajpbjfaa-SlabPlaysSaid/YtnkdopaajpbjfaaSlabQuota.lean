/- Package slab: Quota, walked. No condition. -/
import Derived.Test.YtnkdopaajpbjfaaSlabWalk
namespace Go.Proofs.Ytnkdopaajpbjfaa
open Go Go.RowKit

variable {F0 : Nat → Prop} {w0 w : World} {Ps : List Res}

/-- Quota. -/
theorem Sep.sQuota (h : Sep F0 w0 w Ps) (i : Nat) {s : Nat} {S : Slb} (hi : Ps[i]? = some (slabR s S)) :
    Calls Try.prog 23 #[.pointer (some ⟨s, 0, none⟩)] w fun e w' => e = .returned (.int .i64 S.quota) ∧ w = w' := by
  obtain ⟨b, p, hM, hS, _⟩ := h.sGet i hi
  have hN := hM.there
  have c0 := hM.c0
  generalize S.quota = q at *
  clear h hi hM hS
  go_enter Try.func23, Try.ntmps23
  go_wp2_with ((with_reducible refine hN.mono ?_); rintro e w' ⟨rfl, rfl⟩)
  go_ret
  exact ⟨rfl, rfl⟩

end Go.Proofs.Ytnkdopaajpbjfaa
