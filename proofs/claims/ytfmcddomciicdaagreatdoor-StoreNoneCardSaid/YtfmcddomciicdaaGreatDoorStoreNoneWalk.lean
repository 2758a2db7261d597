/- StoreNone, walked. Condition: the table of math/bits holds what its initialiser lays. -/
import Derived.Test.YtfmcddomciicdaaGreatDoorStoreNil2
import Derived.Test.YtfmcddomciicdaaGreatDoorAwake06
import Derived.BigQuiet
import Derived.Deep.QuietTactic
import Derived.Deep.RegionHeld3
import Derived.Deep.DeepCutAuto
set_option linter.unusedVariables false
set_option linter.unusedSimpArgs false
set_option maxRecDepth 100000
namespace Go.Proofs.YtfmcddomciicdaaGreatDoor
open Go Go.RowKit


set_option maxRecDepth 100000 in
set_option maxHeartbeats 4000000 in
theorem storeNone_walk (h k v : Int) (w : World) (wh : (Lit.int .u64 h).wf = true) (wk : (Lit.int .i64 k).wf = true) (wv : (Lit.int .u64 v).wf = true) (hT : Tab64 w) :
    Calls Tryz.prog 4 #[.int .u64 h, .int .i64 k, .int .u64 v] w fun e w' => e = .returned (.bool true) ∧ Below w.heap.size w w' := by
  have HT := Lib.hid hT
  obtain ⟨W0, hW0⟩ : ∃ W0, w.alloc (.cells #[.int .i64 0, .int .u32 0, .pointer none, .pointer none, .pointer none] 50) = W0 := ⟨_, rfl⟩
  have hz : W0.cell? ⟨w.heap.size, 2, none⟩ = some (.pointer none) := by
    rw [← hW0]
    exact cell_at (heap_alloc_new w _) 2
  have HM0 : Hid (Mod No w W0) := by show Mod No w W0; rw [← hW0]; exact (Mod.refl No w).alloc _
  have HZ := Lib.hid (noStore_zero hz)
  clear hT hz
  go_enter Tryz.func4, Tryz.ntmps4
  go_wp2_with fail
  clear hW0
  go_loopw [7, 9] (fun sv i wr => ∃ (j : Nat) (p : Option Addr), i = .int .i64 j ∧ j ≤ 2 ∧ sv = .pointer p ∧ (j < 2 → p = none) ∧ Mod No W0 wr) (fun _ i _ => 2 - (RowKit.intOf i).toNat)
  case atStart => exact ⟨0, none, rfl, by omega, rfl, fun _ => rfl, Mod.refl _ _⟩
  case round =>
    obtain ⟨j, p, rfl, hj, rfl, hp, hm⟩ := hrel
    have HM := Lib.hid (HM0.out.trans' hm)
    have HMR := Lib.hid hm
    by_cases h2 : j = 2
    · subst h2
      clear hp hm
      go_wp2_with fail
      have ha := awake06_call wr (HT.out.mod HM.out)
      go_wp2_with fail
      refine ha.mono ?_
      rintro e w9 ⟨rfl, hm9⟩
      have H9 := Lib.hid (HM.out.trans' hm9)
      clear ha hm9
      go_wp2
      go_ret
      exact ⟨rfl, H9.out.below _ (Nat.le_refl _) (fun _ _ x => x)⟩
    · obtain rfl := hp (by omega)
      by_cases h0 : j = 0
      · subst h0
        have hN := noStore_nil wr
        clear hp hm h2
        have hc := zstMake hN k
        go_wp2_with fail
        refine hc.mono ?_
        rintro e w2 ⟨rfl, hm2⟩
        have hN2 := hN.mod hm2
        have HN := Lib.hid (And.intro hN2 (HMR.out.trans' hm2))
        have hc2 := zstLen hN2 h
        clear hc hm2 hN2 hN HM HMR
        go_wp2_with fail
        refine hc2.mono ?_
        rintro e w' ⟨rfl, rfl⟩
        clear hc2
        have hc3 := zstGet2 HN.out.1 h k
        go_wp2_with fail
        refine hc3.mono ?_
        rintro e w' ⟨rfl, rfl⟩
        clear hc3
        have hc4 := zstSlide HN.out.1 h
        go_wp2_with fail
        refine hc4.mono ?_
        rintro e w' ⟨rfl, rfl⟩
        clear hc4
        have hc5 := zstRaw HN.out.1
        go_wp2_with fail
        refine hc5.mono ?_
        rintro e w3 ⟨rfl, hm3⟩
        have hmA := hm3.alloc (.cells #[.int .i64 0, .int .i64 0, .int .u32 0, .slice none 0 0, .slice none 0 0] 39)
        have HN3 := Lib.hid (And.intro (HN.out.1.mod hmA) (HN.out.2.trans' hmA))
        clear hc5 hm3 hmA HN
        go_wp2_with fail
        have hc6 := zstDrop2 HN3.out.1 h
        refine hc6.mono ?_
        rintro e w' ⟨rfl, rfl⟩
        clear hc6
        have hc7 := zstPut2 HN3.out.1 h k v
        go_wp2_with fail
        refine hc7.mono ?_
        rintro e w' ⟨rfl, rfl⟩
        clear hc7
        have hc8 := zstAudit HN3.out.1
        go_wp2_with fail
        refine hc8.mono ?_
        rintro e w' ⟨rfl, rfl⟩
        clear hc8
        go_wp2_with fail
        go_big_quiet (first
          | (go_at_call 33; refine Calls.quiet_of_same ((zstAll (HN3.out.1.mod (Mod.of_drewN rfl))).mono fun _ _ h => ⟨h.1, h.2.symm⟩))
          | (go_at_call 24; refine Calls.quiet_of_same ((zstWords (HN3.out.1.mod (Mod.of_drewN rfl))).mono fun _ _ h => ⟨h.1, h.2.symm⟩))
          | (go_at_call 34; refine Calls.quiet_of_same ((zstSpare (HN3.out.1.mod (Mod.of_drewN rfl)) 0).mono fun _ _ h => ⟨h.1, h.2.symm⟩)))
        have HN4 := Lib.hid (HN3.out.2.trans' (Mod.of_drewN (n := nq) rfl))
        clear HN3
        go_wp2_with fail
        go_roundw
        case rel => exact ⟨1, _, by go_num, by omega, rfl, fun _ => rfl, HN4.out⟩
        case measure => simp [RowKit.intOf]
      · obtain rfl : j = 1 := by omega
        have hN := HZ.out.mod hm
        clear hp hm h2 h0
        have hc := zstMake hN k
        go_wp2_with fail
        refine hc.mono ?_
        rintro e w2 ⟨rfl, hm2⟩
        have hN2 := hN.mod hm2
        have HN := Lib.hid (And.intro hN2 (HMR.out.trans' hm2))
        have hc2 := zstLen hN2 h
        clear hc hm2 hN2 hN HM HMR
        go_wp2_with fail
        refine hc2.mono ?_
        rintro e w' ⟨rfl, rfl⟩
        clear hc2
        have hc3 := zstGet2 HN.out.1 h k
        go_wp2_with fail
        refine hc3.mono ?_
        rintro e w' ⟨rfl, rfl⟩
        clear hc3
        have hc4 := zstSlide HN.out.1 h
        go_wp2_with fail
        refine hc4.mono ?_
        rintro e w' ⟨rfl, rfl⟩
        clear hc4
        have hc5 := zstRaw HN.out.1
        go_wp2_with fail
        refine hc5.mono ?_
        rintro e w3 ⟨rfl, hm3⟩
        have hmA := hm3.alloc (.cells #[.int .i64 0, .int .i64 0, .int .u32 0, .slice none 0 0, .slice none 0 0] 39)
        have HN3 := Lib.hid (And.intro (HN.out.1.mod hmA) (HN.out.2.trans' hmA))
        clear hc5 hm3 hmA HN
        go_wp2_with fail
        have hc6 := zstDrop2 HN3.out.1 h
        refine hc6.mono ?_
        rintro e w' ⟨rfl, rfl⟩
        clear hc6
        have hc7 := zstPut2 HN3.out.1 h k v
        go_wp2_with fail
        refine hc7.mono ?_
        rintro e w' ⟨rfl, rfl⟩
        clear hc7
        have hc8 := zstAudit HN3.out.1
        go_wp2_with fail
        refine hc8.mono ?_
        rintro e w' ⟨rfl, rfl⟩
        clear hc8
        go_wp2_with fail
        go_big_quiet (first
          | (go_at_call 33; refine Calls.quiet_of_same ((zstAll (HN3.out.1.mod (Mod.of_drewN rfl))).mono fun _ _ h => ⟨h.1, h.2.symm⟩))
          | (go_at_call 24; refine Calls.quiet_of_same ((zstWords (HN3.out.1.mod (Mod.of_drewN rfl))).mono fun _ _ h => ⟨h.1, h.2.symm⟩))
          | (go_at_call 34; refine Calls.quiet_of_same ((zstSpare (HN3.out.1.mod (Mod.of_drewN rfl)) 0).mono fun _ _ h => ⟨h.1, h.2.symm⟩)))
        have HN4 := Lib.hid (HN3.out.2.trans' (Mod.of_drewN (n := nq) rfl))
        clear HN3
        go_wp2_with fail
        go_roundw
        case rel => exact ⟨2, _, by go_num, by omega, rfl, fun h => absurd h (by omega), HN4.out⟩
        case measure => simp [RowKit.intOf]
end Go.Proofs.YtfmcddomciicdaaGreatDoor
