/- Package node, walked: the calls without a store, and Drop. Conditions: as each says. -/
import Derived.Test.YtfmcddomciicdaaGreatDoorNodeWalk
import Derived.Test.YtfmcddomciicdaaGreatDoorStoreNil
set_option linter.unusedVariables false
set_option linter.unusedSimpArgs false
set_option maxRecDepth 100000
namespace Go.Proofs.YtfmcddomciicdaaGreatDoor
open Go Go.RowKit

section
variable {p : Option Addr} {w : World}
theorem znasked (hN : NoStore p w) (hh : Int) : Calls Tryz.prog 97 #[.pointer p, .int .u64 hh] w fun e w' => e = .returned (.int .i64 1) ∧ w = w' := by
  have hl := zstLen hN hh
  clear hN
  go_enter Tryz.func97, Tryz.ntmps97
  go_wp2_with fail
  refine hl.mono ?_
  rintro e w' ⟨rfl, rfl⟩
  clear hl
  go_wp2
  go_ret
  exact ⟨rfl, rfl⟩
theorem znMake (hN : NoStore p w) (x0 x1 x2 x3 x4 x5 : Int) : Calls Tryz.prog 46 #[.pointer p, nodeV x0 x1 x2 x3 x4 x5] w fun e w' => e = .returned (.tuple #[.int .u64 0, .int .i64 1]) ∧ Mod No w w' := by
  have hm := (Mod.refl No w).alloc (.cells #[.int .u64 x0, .int .u64 x1, .int .u64 x2, .int .u64 x3, .int .u64 x4, .int .u64 x5] 109)
  have hl := zstMake (hN.mod hm) 6
  have HM := Lib.hid hm
  clear hN hm
  go_enter Tryz.func46, Tryz.ntmps46
  go_wp2_with fail
  refine hl.mono ?_
  rintro e w' ⟨rfl, hm2⟩
  have HM2 := Lib.hid (HM.out.trans' hm2)
  clear hl hm2
  go_wp2
  go_ret2
  exact ⟨rfl, HM2.out⟩
theorem znPut (hN : NoStore p w) (hh x0 x1 x2 x3 x4 x5 : Int) : Calls Tryz.prog 47 #[.pointer p, .int .u64 hh, nodeV x0 x1 x2 x3 x4 x5] w fun e w' => e = .returned (.int .i64 1) ∧ Mod No w w' := by
  have hm := (Mod.refl No w).alloc (.cells #[.int .u64 x0, .int .u64 x1, .int .u64 x2, .int .u64 x3, .int .u64 x4, .int .u64 x5] 109)
  have hl := znasked (hN.mod hm) hh
  have HM := Lib.hid hm
  clear hN hm
  go_enter Tryz.func47, Tryz.ntmps47
  go_wp2_with fail
  refine hl.mono ?_
  rintro e w' ⟨rfl, rfl⟩
  clear hl
  go_wp2
  go_ret
  exact ⟨rfl, HM.out⟩
theorem znGet (hN : NoStore p w) (hh : Int) : Calls Tryz.prog 48 #[.pointer p, .int .u64 hh] w fun e w' => e = .returned (.tuple #[nodeV 0 0 0 0 0 0, .int .i64 1]) ∧ Mod No w w' := by
  have hm := (Mod.refl No w).alloc (.cells zero6 109)
  have hl := znasked (hN.mod hm) hh
  have HM := Lib.hid hm
  clear hN hm
  go_enter Tryz.func48, Tryz.ntmps48
  go_wp2_with fail
  refine hl.mono ?_
  rintro e w' ⟨rfl, rfl⟩
  clear hl
  go_wp2
  refine bodyPost_ret (v := .tuple #[nodeV 0 0 0 0 0 0, .int .i64 1]) ?_ rfl ⟨rfl, HM.out⟩
  simp [results, Tryz.f48, go_sem]
end

section
variable {F0 : Nat → Prop} {w0 w : World} {Ps : List Res} {b : Nat} {m la : Int} {S S' : Slb} {T T' : HTbl} {H H' : List Ent} {R R' : List Rc}
end
end Go.Proofs.YtfmcddomciicdaaGreatDoor
