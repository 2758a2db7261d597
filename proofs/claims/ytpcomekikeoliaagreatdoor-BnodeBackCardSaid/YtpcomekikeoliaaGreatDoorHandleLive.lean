/- Live of handle.Table, walked. Condition: the table is as Tab says. -/
import Derived.Test.YtpcomekikeoliaaGreatDoorHandleOpen
set_option linter.unusedVariables false
set_option linter.unusedSimpArgs false
set_option maxRecDepth 100000
namespace Go.Proofs.YtpcomekikeoliaaGreatDoor
open Go Go.RowKit

theorem infoHandle : (Tryz.prog.info? 55).map (fun i => (i.zero, i.size, i.bytes)) = some (some (.int .u64 0), 1, 8) := by kernel_rfl

/-- A table that is not there, or that nobody made: each call's answer. -/
theorem of_none {w : World} {p : Value} (n : Int) (hN : Calls Tryz.prog 102 #[p] w fun e w' => e = .returned (.bool true) ∧ w = w') :
    Calls Tryz.prog 103 #[p, .int .u64 n] w fun e w' => e = .returned (.tuple #[.pointer none, .int .i64 1]) ∧ w = w' := by
  go_enter Tryz.func103, Tryz.ntmps103
  go_wp2_with ((with_reducible refine hN.mono ?_); rintro e w' ⟨rfl, rfl⟩)
  go_ret2
  exact ⟨rfl, rfl⟩
theorem open_none {w : World} {p : Value} (n : Int) (hN : Calls Tryz.prog 102 #[p] w fun e w' => e = .returned (.bool true) ∧ w = w') :
    Calls Tryz.prog 98 #[p, .int .i64 n] w fun e w' => e = .returned (.tuple #[.int .u64 0, .int .i64 1]) ∧ w = w' := by
  go_enter Tryz.func98, Tryz.ntmps98
  go_wp2_with ((with_reducible refine hN.mono ?_); rintro e w' ⟨rfl, rfl⟩)
  go_ret2
  exact ⟨rfl, rfl⟩
theorem at_none {w : World} {p : Value} (n : Int) (hN : Calls Tryz.prog 102 #[p] w fun e w' => e = .returned (.bool true) ∧ w = w') :
    Calls Tryz.prog 101 #[p, .int .u64 n] w fun e w' => e = .returned (.tuple #[.int .i64 0, .int .i64 1]) ∧ w = w' := by
  have hc := of_none n hN
  clear hN
  go_enter Tryz.func101, Tryz.ntmps101
  go_wp2_with ((with_reducible refine hc.mono ?_); rintro e w' ⟨rfl, rfl⟩)
  go_ret2
  exact ⟨rfl, rfl⟩
theorem move_none {w : World} {p : Value} (n a : Int) (hN : Calls Tryz.prog 102 #[p] w fun e w' => e = .returned (.bool true) ∧ w = w') :
    Calls Tryz.prog 57 #[p, .int .u64 n, .int .i64 a] w fun e w' => e = .returned (.int .i64 1) ∧ w = w' := by
  have hc := of_none n hN
  go_enter Tryz.func57, Tryz.ntmps57
  go_wp2_with (first | ((with_reducible refine hN.mono ?_); rintro e w' ⟨rfl, rfl⟩) | ((with_reducible refine hc.mono ?_); rintro e w' ⟨rfl, rfl⟩))
  go_ret
  exact ⟨rfl, rfl⟩
end Go.Proofs.YtpcomekikeoliaaGreatDoor
