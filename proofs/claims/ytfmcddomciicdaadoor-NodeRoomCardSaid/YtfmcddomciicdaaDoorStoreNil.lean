/- Package store, walked: the calls of no store. Condition: there is none (the pointer is nil, or nobody made the store). -/
import Derived.Test.YtfmcddomciicdaaDoorStoreMake
set_option linter.unusedVariables false
set_option linter.unusedSimpArgs false
set_option maxRecDepth 100000
namespace Go.Proofs.YtfmcddomciicdaaDoor
open Go Go.RowKit

theorem stnone_nil (w : World) : Calls Tryd.prog 40 #[.pointer none] w fun e w' => e = .returned (.bool true) ∧ w = w' := by
  go_enter Tryd.func40, Tryd.ntmps40
  go_wp2
  go_ret
  exact ⟨rfl, rfl⟩
theorem stnone_zero (b : Nat) (w : World) (hc : w.cell? ⟨b, 2, none⟩ = some (.pointer none)) : Calls Tryd.prog 40 #[.pointer (some ⟨b, 0, none⟩)] w fun e w' => e = .returned (.bool true) ∧ w = w' := by
  go_enter Tryd.func40, Tryd.ntmps40
  go_wp2
  go_ret
  exact ⟨rfl, rfl⟩

/-- There is no store: whatever was made beside it. -/
def NoStore (p : Option Addr) (w : World) : Prop := ∀ w', Mod No w w' → Calls Tryd.prog 40 #[.pointer p] w' fun e w1 => e = .returned (.bool true) ∧ w' = w1
theorem noStore_nil (w : World) : NoStore none w := fun w' _ => stnone_nil w'
theorem noStore_zero {b : Nat} {w : World} (hc : w.cell? ⟨b, 2, none⟩ = some (.pointer none)) : NoStore (some ⟨b, 0, none⟩) w := fun w' hm => stnone_zero b w' (hm.cell hc (fun x => x))
theorem NoStore.mod {p : Option Addr} {w w' : World} (h : NoStore p w) (hm : Mod No w w') : NoStore p w' := fun w1 h1 => h w1 (hm.trans' h1)

section
variable {p : Option Addr} {w : World}
theorem zstMake (hN : NoStore p w) (n : Int) :
    Calls Tryd.prog 14 #[.pointer p, .int .i64 n] w fun e w' => e = .returned (.tuple #[.int .u64 0, .int .i64 1]) ∧ Mod No w w' := by
  have hm0 := ((Mod.refl No w).alloc (.cells #[.pointer p] 24)).alloc (.cells #[.int .i64 0] 25)
  have hm1 := ((Mod.refl No w).alloc (.cells #[.pointer p] 24)).alloc (.cells #[.int .i64 1] 25)
  have hn := hN _ hm0
  have HM := Lib.hid hm1
  clear hN hm0 hm1
  go_enter_defers Tryd.func14, Tryd.ntmps14
  go_wp2_with fail
  refine hn.mono ?_
  rintro e w' ⟨rfl, rfl⟩
  clear hn
  go_wp2_with fail
  refine door0 (v := .tuple #[.int .u64 0, .int .i64 1]) ?_ ⟨rfl, HM.out⟩
  simp [results, Tryd.f14, go_sem]
theorem zstAt (hN : NoStore p w) (hh : Int) :
    Calls Tryd.prog 49 #[.pointer p, .int .u64 hh] w fun e w' => e = .returned (.tuple #[.int .i64 0, .int .i64 0, .int .i64 1]) ∧ w = w' := by
  have hn := hN _ (Mod.refl No w)
  clear hN
  go_enter Tryd.func49, Tryd.ntmps49
  go_wp2_with fail
  refine hn.mono ?_
  rintro e w' ⟨rfl, rfl⟩
  clear hn
  go_wp2
  go_ret3
  exact ⟨rfl, rfl⟩
theorem zstLen (hN : NoStore p w) (hh : Int) :
    Calls Tryd.prog 23 #[.pointer p, .int .u64 hh] w fun e w' => e = .returned (.tuple #[.int .i64 0, .int .i64 1]) ∧ w = w' := by
  have hn := zstAt hN hh
  clear hN
  go_enter Tryd.func23, Tryd.ntmps23
  go_wp2_with fail
  refine hn.mono ?_
  rintro e w' ⟨rfl, rfl⟩
  clear hn
  go_wp2
  go_ret2
  exact ⟨rfl, rfl⟩
end
end Go.Proofs.YtfmcddomciicdaaDoor
