/- Package node, walked: the calls without a store, and Drop. Conditions: as each says. -/
import Derived.Test.YtfmcddomciicdaaDoorNodeWalk
import Derived.Test.YtfmcddomciicdaaDoorStoreNil
set_option linter.unusedVariables false
set_option linter.unusedSimpArgs false
set_option maxRecDepth 100000
namespace Go.Proofs.YtfmcddomciicdaaDoor
open Go Go.RowKit

section
variable {p : Option Addr} {w : World}
theorem znasked (hN : NoStore p w) (hh : Int) : Calls Tryd.prog 60 #[.pointer p, .int .u64 hh] w fun e w' => e = .returned (.int .i64 1) ∧ w = w' := by
  have hl := zstLen hN hh
  clear hN
  go_enter Tryd.func60, Tryd.ntmps60
  go_wp2_with fail
  refine hl.mono ?_
  rintro e w' ⟨rfl, rfl⟩
  clear hl
  go_wp2
  go_ret
  exact ⟨rfl, rfl⟩
theorem znMake (hN : NoStore p w) (x0 x1 x2 x3 x4 x5 : Int) : Calls Tryd.prog 26 #[.pointer p, nodeV x0 x1 x2 x3 x4 x5] w fun e w' => e = .returned (.tuple #[.int .u64 0, .int .i64 1]) ∧ Mod No w w' := by
  have hm := (Mod.refl No w).alloc (.cells #[.int .u64 x0, .int .u64 x1, .int .u64 x2, .int .u64 x3, .int .u64 x4, .int .u64 x5] 58)
  have hl := zstMake (hN.mod hm) 6
  have HM := Lib.hid hm
  clear hN hm
  go_enter Tryd.func26, Tryd.ntmps26
  go_wp2_with fail
  refine hl.mono ?_
  rintro e w' ⟨rfl, hm2⟩
  have HM2 := Lib.hid (HM.out.trans' hm2)
  clear hl hm2
  go_wp2
  go_ret2
  exact ⟨rfl, HM2.out⟩
theorem znPut (hN : NoStore p w) (hh x0 x1 x2 x3 x4 x5 : Int) : Calls Tryd.prog 29 #[.pointer p, .int .u64 hh, nodeV x0 x1 x2 x3 x4 x5] w fun e w' => e = .returned (.int .i64 1) ∧ Mod No w w' := by
  have hm := (Mod.refl No w).alloc (.cells #[.int .u64 x0, .int .u64 x1, .int .u64 x2, .int .u64 x3, .int .u64 x4, .int .u64 x5] 58)
  have hl := znasked (hN.mod hm) hh
  have HM := Lib.hid hm
  clear hN hm
  go_enter Tryd.func29, Tryd.ntmps29
  go_wp2_with fail
  refine hl.mono ?_
  rintro e w' ⟨rfl, rfl⟩
  clear hl
  go_wp2
  go_ret
  exact ⟨rfl, HM.out⟩
theorem znGet (hN : NoStore p w) (hh : Int) : Calls Tryd.prog 28 #[.pointer p, .int .u64 hh] w fun e w' => e = .returned (.tuple #[nodeV 0 0 0 0 0 0, .int .i64 1]) ∧ Mod No w w' := by
  have hm := (Mod.refl No w).alloc (.cells zero6 58)
  have hl := znasked (hN.mod hm) hh
  have HM := Lib.hid hm
  clear hN hm
  go_enter Tryd.func28, Tryd.ntmps28
  go_wp2_with fail
  refine hl.mono ?_
  rintro e w' ⟨rfl, rfl⟩
  clear hl
  go_wp2
  refine bodyPost_ret (v := .tuple #[nodeV 0 0 0 0 0 0, .int .i64 1]) ?_ rfl ⟨rfl, HM.out⟩
  simp [results, Tryd.f28, go_sem]
theorem znDrop (hN : NoStore p w) (hh : Int) : Calls Tryd.prog 30 #[.pointer p, .int .u64 hh] w fun e w' => e = .returned (.int .i64 1) ∧ w = w' := by
  have hl := znasked hN hh
  clear hN
  go_enter Tryd.func30, Tryd.ntmps30
  go_wp2_with fail
  refine hl.mono ?_
  rintro e w' ⟨rfl, rfl⟩
  clear hl
  go_wp2
  go_ret
  exact ⟨rfl, rfl⟩
end

section
variable {F0 : Nat → Prop} {w0 w : World} {Ps : List Res} {b : Nat} {m la : Int} {S S' : Slb} {T T' : HTbl} {H H' : List Ent} {R R' : List Rc}
theorem ndrop_no (h : Sep F0 w0 w Ps) (i : Nat) (hi : Ps[i]? = some (stR b m la S T)) (I : StInv S T H R) {hh : Int} (h0 : 0 ≤ hh ∧ hh < 18446744073709551616) {er : Int} (Q : Asks T R hh er) (he : er ≠ 0) :
    Calls Tryd.prog 30 #[.pointer (some ⟨b, 0, none⟩), .int .u64 hh] w fun e w' => e = .returned (.int .i64 er) ∧ w = w' := by
  have ha := asked_call h i hi I h0 Q
  have d : (er != 0) = true := bneT he
  clear h I hi Q he
  go_enter Tryd.func30, Tryd.ntmps30
  go_wp2_with fail
  refine ha.mono ?_
  rintro e w' ⟨rfl, rfl⟩
  clear ha
  go_wp2
  go_ret
  exact ⟨rfl, rfl⟩
end
end Go.Proofs.YtfmcddomciicdaaDoor
