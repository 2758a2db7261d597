/- Package store, walked: the other calls of no store. Condition: there is none (the pointer is nil, or nobody made the store). -/
import Derived.Test.YtfmcddomciicdaaGreatDoorStoreNil
set_option linter.unusedVariables false
set_option linter.unusedSimpArgs false
set_option maxRecDepth 100000
namespace Go.Proofs.YtfmcddomciicdaaGreatDoor
open Go Go.RowKit

section
variable {p : Option Addr} {w : World}
theorem zstDrop2 (hN : NoStore p w) (hh : Int) : Calls Tryz.prog 31 #[.pointer p, .int .u64 hh] w fun e w' => e = .returned (.int .i64 1) ∧ w = w' := by
  have hn := zstAt hN hh
  clear hN
  go_enter Tryz.func31, Tryz.ntmps31
  go_wp2_with fail
  refine hn.mono ?_
  rintro e w' ⟨rfl, rfl⟩
  clear hn
  go_wp2
  go_ret
  exact ⟨rfl, rfl⟩
theorem zstPlace2 (hN : NoStore p w) (hh k : Int) : Calls Tryz.prog 87 #[.pointer p, .int .u64 hh, .int .i64 k] w fun e w' => e = .returned (.tuple #[.int .i64 0, .int .i64 1]) ∧ w = w' := by
  have hn := zstAt hN hh
  clear hN
  go_enter Tryz.func87, Tryz.ntmps87
  go_wp2_with fail
  refine hn.mono ?_
  rintro e w' ⟨rfl, rfl⟩
  clear hn
  go_wp2
  go_ret2
  exact ⟨rfl, rfl⟩
theorem zstGet2 (hN : NoStore p w) (hh k : Int) : Calls Tryz.prog 29 #[.pointer p, .int .u64 hh, .int .i64 k] w fun e w' => e = .returned (.tuple #[.int .u64 0, .int .i64 1]) ∧ w = w' := by
  have hn := zstPlace2 hN hh k
  clear hN
  go_enter Tryz.func29, Tryz.ntmps29
  go_wp2_with fail
  refine hn.mono ?_
  rintro e w' ⟨rfl, rfl⟩
  clear hn
  go_wp2
  go_ret2
  exact ⟨rfl, rfl⟩
theorem zstPut2 (hN : NoStore p w) (hh k v : Int) : Calls Tryz.prog 32 #[.pointer p, .int .u64 hh, .int .i64 k, .int .u64 v] w fun e w' => e = .returned (.int .i64 1) ∧ w = w' := by
  have hn := zstPlace2 hN hh k
  clear hN
  go_enter Tryz.func32, Tryz.ntmps32
  go_wp2_with fail
  refine hn.mono ?_
  rintro e w' ⟨rfl, rfl⟩
  clear hn
  go_wp2
  go_ret
  exact ⟨rfl, rfl⟩
theorem zstSlide (hN : NoStore p w) (hh : Int) : Calls Tryz.prog 30 #[.pointer p, .int .u64 hh] w fun e w' => e = .returned (.tuple #[.bool false, .int .i64 1]) ∧ w = w' := by
  have hn := zstAt hN hh
  clear hN
  go_enter Tryz.func30, Tryz.ntmps30
  go_wp2_with fail
  refine hn.mono ?_
  rintro e w' ⟨rfl, rfl⟩
  clear hn
  go_wp2
  go_ret2
  exact ⟨rfl, rfl⟩
theorem zstAll (hN : NoStore p w) : Calls Tryz.prog 33 #[.pointer p] w fun e w' => e = .returned (.slice none 0 0) ∧ w = w' := by
  have hn := hN w (Mod.refl No w)
  clear hN
  go_enter Tryz.func33, Tryz.ntmps33
  go_wp2_with fail
  refine hn.mono ?_
  rintro e w' ⟨rfl, rfl⟩
  clear hn
  go_wp2
  go_ret
  exact ⟨rfl, rfl⟩
theorem zstWords (hN : NoStore p w) : Calls Tryz.prog 24 #[.pointer p] w fun e w' => e = .returned (.int .i64 0) ∧ w = w' := by
  have hn := hN w (Mod.refl No w)
  clear hN
  go_enter Tryz.func24, Tryz.ntmps24
  go_wp2_with fail
  refine hn.mono ?_
  rintro e w' ⟨rfl, rfl⟩
  clear hn
  go_wp2
  go_ret
  exact ⟨rfl, rfl⟩
theorem zstSpare (hN : NoStore p w) (c : Int) : Calls Tryz.prog 34 #[.pointer p, .int .i64 c] w fun e w' => e = .returned (.int .i64 0) ∧ w = w' := by
  have hn := hN w (Mod.refl No w)
  clear hN
  go_enter Tryz.func34, Tryz.ntmps34
  go_wp2_with fail
  refine hn.mono ?_
  rintro e w' ⟨rfl, rfl⟩
  clear hn
  go_wp2
  go_ret
  exact ⟨rfl, rfl⟩
theorem zstAudit (hN : NoStore p w) : Calls Tryz.prog 26 #[.pointer p] w fun e w' => e = .returned (.int .i64 1) ∧ w = w' := by
  have hn := hN w (Mod.refl No w)
  clear hN
  go_enter Tryz.func26, Tryz.ntmps26
  go_wp2_with fail
  refine hn.mono ?_
  rintro e w' ⟨rfl, rfl⟩
  clear hn
  go_wp2
  go_ret
  exact ⟨rfl, rfl⟩
theorem zstRaw (hN : NoStore p w) : Calls Tryz.prog 23 #[.pointer p] w fun e w' => e = .returned (.agg #[.int .i64 0, .int .i64 0, .int .u32 0, .slice none 0 0, .slice none 0 0]) ∧ Mod No w w' := by
  have hm := (Mod.refl No w).alloc (.cells #[.int .i64 0, .int .i64 0, .int .u32 0, .slice none 0 0, .slice none 0 0] 39)
  have hn := hN _ hm
  have HM := Lib.hid hm
  clear hN hm
  go_enter Tryz.func23, Tryz.ntmps23
  go_wp2_with fail
  refine hn.mono ?_
  rintro e w' ⟨rfl, rfl⟩
  clear hn
  go_wp2
  refine bodyPost_ret (v := .agg #[.int .i64 0, .int .i64 0, .int .u32 0, .slice none 0 0, .slice none 0 0]) ?_ rfl ⟨rfl, ?_⟩
  · simp [results, Tryz.f23, go_sem]
  · exact HM.out
end
end Go.Proofs.YtfmcddomciicdaaGreatDoor
