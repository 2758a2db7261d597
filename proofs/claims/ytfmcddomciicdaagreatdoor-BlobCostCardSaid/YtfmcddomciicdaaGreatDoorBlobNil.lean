/- Package blob, walked: the calls of no store. Condition: there is none. -/
import Derived.Test.YtfmcddomciicdaaGreatDoorStoreNil
import Derived.Test.YtfmcddomciicdaaGreatDoorAwake09
set_option linter.unusedVariables false
set_option linter.unusedSimpArgs false
set_option maxRecDepth 100000
namespace Go.Proofs.YtfmcddomciicdaaGreatDoor
open Go Go.RowKit

section
variable {p : Option Addr} {w : World}
theorem zbPut (hN : NoStore p w) (s : ByteArray) : Calls Tryz.prog 58 #[.pointer p, .string s] w fun e w' => e = .returned (.tuple #[.int .u64 0, .int .i64 1]) ∧ w = w' := by
  have hl := zstLen hN 0
  clear hN
  go_enter Tryz.func58, Tryz.ntmps58
  go_wp2_with fail
  refine hl.mono ?_
  rintro e w' ⟨rfl, rfl⟩
  clear hl
  go_wp2
  go_ret2
  exact ⟨rfl, rfl⟩
theorem zbGet (hN : NoStore p w) (hh : Int) : Calls Tryz.prog 59 #[.pointer p, .int .u64 hh] w fun e w' => e = .returned (.tuple #[.string ⟨#[]⟩, .int .i64 1]) ∧ w = w' := by
  have hl := zstLen hN hh
  clear hN
  go_enter Tryz.func59, Tryz.ntmps59
  go_wp2_with fail
  refine hl.mono ?_
  rintro e w' ⟨rfl, rfl⟩
  clear hl
  go_wp2
  go_ret2
  exact ⟨rfl, rfl⟩
theorem zbDrop (hN : NoStore p w) (hh : Int) : Calls Tryz.prog 61 #[.pointer p, .int .u64 hh] w fun e w' => e = .returned (.int .i64 1) ∧ w = w' := by
  have hl := zbGet hN hh
  clear hN
  go_enter Tryz.func61, Tryz.ntmps61
  go_wp2_with fail
  refine hl.mono ?_
  rintro e w' ⟨rfl, rfl⟩
  clear hl
  go_wp2
  go_ret
  exact ⟨rfl, rfl⟩
end
end Go.Proofs.YtfmcddomciicdaaGreatDoor
