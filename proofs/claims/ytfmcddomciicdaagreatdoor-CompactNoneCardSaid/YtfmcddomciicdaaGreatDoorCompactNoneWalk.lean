/- CompactNone, walked. Condition: the table of math/bits holds what its initialiser lays. -/
import Derived.Test.YtfmcddomciicdaaGreatDoorAwake07
import Derived.Test.YtfmcddomciicdaaGreatDoorStoreNil
set_option linter.unusedVariables false
set_option linter.unusedSimpArgs false
set_option maxRecDepth 100000
namespace Go.Proofs.YtfmcddomciicdaaGreatDoor
open Go Go.RowKit

theorem zcstep {p : Option Addr} {w : World} (hn : ∀ w', Mod No w w' → Calls Tryz.prog 92 #[.pointer p] w' fun e w'' => e = .returned (.bool true) ∧ w' = w'') :
    Calls Tryz.prog 35 #[.pointer p] w fun e w' => e = .returned (.tuple #[.bool false, .int .i64 1]) ∧ Mod No w w' := by
  have hm0 := ((Mod.refl No w).alloc (.cells #[.pointer p] 73)).alloc (.cells #[.bool false] 4)
  have hm1 := hm0.alloc (.cells #[.int .i64 0] 26)
  have hm2 := hm0.alloc (.cells #[.int .i64 1] 26)
  have hh := hn _ hm1
  have HM := Lib.hid hm2
  clear hn hm0 hm1 hm2
  go_enter Tryz.func35, Tryz.ntmps35
  go_wp2_with fail
  refine hh.mono ?_
  rintro e w' ⟨rfl, rfl⟩
  clear hh
  go_wp2
  refine bodyPost_ret (v := .tuple #[.bool false, .int .i64 1]) ?_ rfl ⟨rfl, HM.out⟩
  simp [results, Tryz.f35, go_sem]
theorem zcrun {p : Option Addr} {w : World} (k : Int) (hn : Calls Tryz.prog 92 #[.pointer p] w fun e w' => e = .returned (.bool true) ∧ w = w') :
    Calls Tryz.prog 36 #[.pointer p, .int .i64 k] w fun e w' => e = .returned (.tuple #[.int .i64 0, .bool false, .int .i64 1]) ∧ Mod No w w' := by
  have HM := Lib.hid (Mod.refl No w)
  go_enter Tryz.func36, Tryz.ntmps36
  go_wp2_with fail
  refine hn.mono ?_
  rintro e w' ⟨rfl, rfl⟩
  clear hn
  go_wp2
  go_ret3
  exact ⟨rfl, HM.out⟩
theorem zcnew {w : World} : Calls Tryz.prog 37 #[.pointer none] w fun e w' => e = .returned (.tuple #[.pointer none, .int .i64 1]) ∧ Mod No w w' := by
  have HM := Lib.hid (Mod.refl No w)
  have hl := zstLen (noStore_nil w) 0
  go_enter Tryz.func37, Tryz.ntmps37
  go_wp2_with fail
  refine hl.mono ?_
  rintro e w' ⟨rfl, rfl⟩
  clear hl
  go_wp2
  go_ret2
  exact ⟨rfl, HM.out⟩

set_option maxRecDepth 100000 in
set_option maxHeartbeats 4000000 in
theorem compactNone_walk (k : Int) (w : World) (w0 : (Lit.int .i64 k).wf = true) (hT : Tab64 w) :
    Calls Tryz.prog 6 #[.int .i64 k] w fun e w' => e = .returned (.bool true) ∧ Below w.heap.size w w' := by
  have HT := Lib.hid hT
  have h0 := (Sep.nil w).pushCells #[.pointer none] 75
  obtain ⟨B, hB⟩ : ∃ B, w.heap.size = B := ⟨_, rfl⟩
  obtain ⟨W1, hW1⟩ : ∃ W, w.alloc (.cells #[.pointer none] 75) = W := ⟨_, rfl⟩
  rw [hB, hW1] at h0
  have h0 : Sep No w W1 [cellsAt B #[.pointer none] 75] := h0
  have H0 := Lib.hid h0
  clear hT h0
  go_enter Tryz.func6, Tryz.ntmps6
  go_wp2_with fail
  go_loopw [3, 5] (fun cv iv wr => ((iv = .int .i64 0 ∧ cv = .pointer none) ∨ (iv = .int .i64 1 ∧ cv = .pointer none) ∨ (iv = .int .i64 2 ∧ cv = .pointer (some ⟨B, 0, none⟩))) ∧ Sep No w wr [cellsAt B #[.pointer none] 75]) (fun _ iv _ => 2 - (RowKit.intOf iv).toNat)
  case atStart => exact ⟨.inl ⟨rfl, rfl⟩, H0.out⟩
  case round =>
    obtain ⟨hiv, h⟩ := hrel
    clear H0
    rcases hiv with ⟨rfl, rfl⟩ | ⟨rfl, rfl⟩ | ⟨rfl, rfl⟩
    · have hs := zcstep (p := none) (w := wr) (fun w' _ => cpnone_nil w')
      have H := Lib.hid h
      clear h
      go_wp2_with fail
      refine hs.mono ?_
      rintro e w2 ⟨rfl, hm2⟩
      have hr := zcrun k (cpnone_nil w2)
      have H2 := Lib.hid (H.out.more hm2)
      clear hs hm2 H
      go_wp2_with fail
      refine hr.mono ?_
      rintro e w3 ⟨rfl, hm3⟩
      have H3 := Lib.hid (H2.out.more hm3)
      clear hr hm3 H2
      go_wp2_with fail
      go_roundw
      case rel => exact ⟨.inr (.inl ⟨rfl, rfl⟩), H3.out⟩
      case measure => simp [RowKit.intOf]
    · have hs := zcstep (p := some ⟨B, 0, none⟩) (fun w' hm => cpnone_zero ((h.more hm).cell 0 rfl 0 (v := .pointer none) rfl).1)
      have H := Lib.hid h
      clear h
      go_wp2_with fail
      refine hs.mono ?_
      rintro e w2 ⟨rfl, hm2⟩
      have h2 := H.out.more hm2
      have hr := zcrun k (cpnone_zero (h2.cell 0 rfl 0 (v := .pointer none) rfl).1)
      have H2 := Lib.hid h2
      clear hs hm2 H h2
      go_wp2_with fail
      refine hr.mono ?_
      rintro e w3 ⟨rfl, hm3⟩
      have H3 := Lib.hid (H2.out.more hm3)
      clear hr hm3 H2
      go_wp2_with fail
      go_roundw
      case rel => exact ⟨.inr (.inr ⟨rfl, rfl⟩), H3.out⟩
      case measure => simp [RowKit.intOf]
    · have hz := zcnew (w := wr)
      have H := Lib.hid h
      clear h
      go_wp2_with fail
      refine hz.mono ?_
      rintro e w2 ⟨rfl, hm2⟩
      have HM := Lib.hid (H.out.more hm2).mod
      clear hz hm2 H
      go_wp2_with fail
      have ha := awake07_call w2 (HT.out.mod HM.out)
      go_wp2_with fail
      refine ha.mono ?_
      rintro e w9 ⟨rfl, hm9⟩
      have H9 := Lib.hid (HM.out.trans' hm9)
      clear ha hm9
      go_wp2
      go_ret
      exact ⟨rfl, H9.out.below _ (Nat.le_refl _) (fun _ _ x => x)⟩
end Go.Proofs.YtfmcddomciicdaaGreatDoor
