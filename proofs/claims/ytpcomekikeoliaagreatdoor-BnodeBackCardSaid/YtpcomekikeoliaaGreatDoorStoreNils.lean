/- Package store, walked: the calls of no store. Condition: there is none (the pointer is nil, or nobody made the store). | Package store, walked: the other calls of no store. Condition: there is none (the pointer is nil, or nobody made the store). -/
import Derived.Test.YtpcomekikeoliaaGreatDoorStoreMake
set_option linter.unusedVariables false
set_option linter.unusedSimpArgs false
set_option maxRecDepth 100000
namespace Go.Proofs.YtpcomekikeoliaaGreatDoor
open Go Go.RowKit

theorem stnone_nil (w : World) : Calls Tryz.prog 96 #[.pointer none] w fun e w' => e = .returned (.bool true) ∧ w = w' := by
  go_enter Tryz.func96, Tryz.ntmps96
  go_wp2
  go_ret
  exact ⟨rfl, rfl⟩
theorem stnone_zero (b : Nat) (w : World) (hc : w.cell? ⟨b, 2, none⟩ = some (.pointer none)) : Calls Tryz.prog 96 #[.pointer (some ⟨b, 0, none⟩)] w fun e w' => e = .returned (.bool true) ∧ w = w' := by
  go_enter Tryz.func96, Tryz.ntmps96
  go_wp2
  go_ret
  exact ⟨rfl, rfl⟩

/-- There is no store: whatever was made beside it. -/
def NoStore (p : Option Addr) (w : World) : Prop := ∀ w', Mod No w w' → Calls Tryz.prog 96 #[.pointer p] w' fun e w1 => e = .returned (.bool true) ∧ w' = w1
theorem noStore_nil (w : World) : NoStore none w := fun w' _ => stnone_nil w'
theorem noStore_zero {b : Nat} {w : World} (hc : w.cell? ⟨b, 2, none⟩ = some (.pointer none)) : NoStore (some ⟨b, 0, none⟩) w := fun w' hm => stnone_zero b w' (hm.cell hc (fun x => x))
theorem NoStore.mod {p : Option Addr} {w w' : World} (h : NoStore p w) (hm : Mod No w w') : NoStore p w' := fun w1 h1 => h w1 (hm.trans' h1)

section
variable {p : Option Addr} {w : World}
theorem zstMake (hN : NoStore p w) (n : Int) :
    Calls Tryz.prog 53 #[.pointer p, .int .i64 n] w fun e w' => e = .returned (.tuple #[.int .u64 0, .int .i64 1]) ∧ Mod No w w' := by
  have hm0 := ((Mod.refl No w).alloc (.cells #[.pointer p] 46)).alloc (.cells #[.int .i64 0] 39)
  have hm1 := ((Mod.refl No w).alloc (.cells #[.pointer p] 46)).alloc (.cells #[.int .i64 1] 39)
  have hn := hN _ hm0
  have HM := Lib.hid hm1
  clear hN hm0 hm1
  go_enter_defers Tryz.func53, Tryz.ntmps53
  go_wp2_with fail
  refine hn.mono ?_
  rintro e w' ⟨rfl, rfl⟩
  clear hn
  go_wp2_with fail
  refine door0 (v := .tuple #[.int .u64 0, .int .i64 1]) ?_ ⟨rfl, HM.out⟩
  simp [results, Tryz.f53, go_sem]
theorem zstAt (hN : NoStore p w) (hh : Int) :
    Calls Tryz.prog 56 #[.pointer p, .int .u64 hh] w fun e w' => e = .returned (.tuple #[.int .i64 0, .int .i64 0, .int .i64 1]) ∧ w = w' := by
  have hn := hN _ (Mod.refl No w)
  clear hN
  go_enter Tryz.func56, Tryz.ntmps56
  go_wp2_with fail
  refine hn.mono ?_
  rintro e w' ⟨rfl, rfl⟩
  clear hn
  go_wp2
  go_ret3
  exact ⟨rfl, rfl⟩
theorem zstLen (hN : NoStore p w) (hh : Int) :
    Calls Tryz.prog 48 #[.pointer p, .int .u64 hh] w fun e w' => e = .returned (.tuple #[.int .i64 0, .int .i64 1]) ∧ w = w' := by
  have hn := zstAt hN hh
  clear hN
  go_enter Tryz.func48, Tryz.ntmps48
  go_wp2_with fail
  refine hn.mono ?_
  rintro e w' ⟨rfl, rfl⟩
  clear hn
  go_wp2
  go_ret2
  exact ⟨rfl, rfl⟩
end
end Go.Proofs.YtpcomekikeoliaaGreatDoor

namespace Go.Proofs.YtpcomekikeoliaaGreatDoor
open Go Go.RowKit

section
variable {p : Option Addr} {w : World}
theorem zstPlace2 (hN : NoStore p w) (hh k : Int) : Calls Tryz.prog 94 #[.pointer p, .int .u64 hh, .int .i64 k] w fun e w' => e = .returned (.tuple #[.int .i64 0, .int .i64 1]) ∧ w = w' := by
  have hn := zstAt hN hh
  clear hN
  go_enter Tryz.func94, Tryz.ntmps94
  go_wp2_with fail
  refine hn.mono ?_
  rintro e w' ⟨rfl, rfl⟩
  clear hn
  go_wp2
  go_ret2
  exact ⟨rfl, rfl⟩
theorem zstGet2 (hN : NoStore p w) (hh k : Int) : Calls Tryz.prog 49 #[.pointer p, .int .u64 hh, .int .i64 k] w fun e w' => e = .returned (.tuple #[.int .u64 0, .int .i64 1]) ∧ w = w' := by
  have hn := zstPlace2 hN hh k
  clear hN
  go_enter Tryz.func49, Tryz.ntmps49
  go_wp2_with fail
  refine hn.mono ?_
  rintro e w' ⟨rfl, rfl⟩
  clear hn
  go_wp2
  go_ret2
  exact ⟨rfl, rfl⟩
theorem zstPut2 (hN : NoStore p w) (hh k v : Int) : Calls Tryz.prog 55 #[.pointer p, .int .u64 hh, .int .i64 k, .int .u64 v] w fun e w' => e = .returned (.int .i64 1) ∧ w = w' := by
  have hn := zstPlace2 hN hh k
  clear hN
  go_enter Tryz.func55, Tryz.ntmps55
  go_wp2_with fail
  refine hn.mono ?_
  rintro e w' ⟨rfl, rfl⟩
  clear hn
  go_wp2
  go_ret
  exact ⟨rfl, rfl⟩
theorem zstSlide (hN : NoStore p w) (hh : Int) : Calls Tryz.prog 21 #[.pointer p, .int .u64 hh] w fun e w' => e = .returned (.tuple #[.bool false, .int .i64 1]) ∧ w = w' := by
  have hn := zstAt hN hh
  clear hN
  go_enter Tryz.func21, Tryz.ntmps21
  go_wp2_with fail
  refine hn.mono ?_
  rintro e w' ⟨rfl, rfl⟩
  clear hn
  go_wp2
  go_ret2
  exact ⟨rfl, rfl⟩
end
end Go.Proofs.YtpcomekikeoliaaGreatDoor
