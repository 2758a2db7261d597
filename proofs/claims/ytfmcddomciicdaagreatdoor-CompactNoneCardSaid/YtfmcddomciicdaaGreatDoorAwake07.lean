/- The laws' awake of package loftlaw07, walked. Condition: the table of math/bits holds what its initialiser lays. -/
import Derived.Test.YtfmcddomciicdaaGreatDoorMade07
import Derived.Test.YtfmcddomciicdaaGreatDoorAwake07Spec
import Derived.Test.YtfmcddomciicdaaGreatDoorStoreMake
set_option linter.unusedVariables false
set_option linter.unusedSimpArgs false
set_option maxRecDepth 100000
namespace Go.Proofs.YtfmcddomciicdaaGreatDoor
open Go Go.RowKit

set_option maxRecDepth 100000 in
set_option maxHeartbeats 4000000 in
theorem awake07_call (w : World) (hT : Tab64 w) : Calls Tryz.prog 38 #[] w fun e w' => e = .returned (.bool true) ∧ Mod No w w' := by
  have HT := Lib.hid hT
  clear hT
  have hm := made07_call 640 10 (by omega) (by omega) (by omega) (by omega) w
  go_enter Tryz.func38, Tryz.ntmps38
  go_wp2_with fail
  refine hm.mono ?_
  rintro e w1 ⟨b, cb, rfl, h1⟩
  have h2 := h1.pushCells (rsV 640 10 4294967295) 91
  obtain ⟨C, hC⟩ : ∃ C, w1.heap.size = C := ⟨_, rfl⟩
  obtain ⟨W2, hW2⟩ : ∃ W, w1.alloc (.cells (rsV 640 10 4294967295) 91) = W := ⟨_, rfl⟩
  rw [hC, hW2] at h2
  have h2 : Sep No w W2 [stR b 10 4294967295 (Slb.empty 640) ⟨10, 4294967295, []⟩, cpR cb b, cellsAt C (rsV 640 10 4294967295) 91] := h2
  obtain ⟨j4, g4⟩ := h2.cell 2 rfl 4 (v := .slice none 0 0) rfl
  obtain ⟨j5, g5⟩ := h2.cell 2 rfl 5 (v := .slice none 0 0) rfl
  have h3 := (h2.set 2 rfl 4 (.slice none 0 0)).set 2 rfl 5 (.slice none 0 0)
  have h3 : Sep No w ((W2.setCell ⟨C, 4, none⟩ (.slice none 0 0)).setCell ⟨C, 5, none⟩ (.slice none 0 0)) [stR b 10 4294967295 (Slb.empty 640) ⟨10, 4294967295, []⟩, cpR cb b, cellsAt C (rsV 640 10 4294967295) 91] := h3
  generalize hW3 : ((W2.setCell ⟨C, 4, none⟩ (.slice none 0 0)).setCell ⟨C, 5, none⟩ (.slice none 0 0)) = W3 at h3
  have I0 := StInv.start (q := 640) (m := 10) (l := 4294967295) (by omega) (by omega) (by omega) (by omega) (by omega) (by omega)
  obtain ⟨a1, e1, S1, T1, H1, R1, M1⟩ := I0.made 0
  obtain ⟨a2, e2, S2, T2, H2, R2, M2⟩ := M1.inv.made 0
  obtain ⟨a3, e3, S3, T3, H3, R3, M3⟩ := M2.inv.made 0
  obtain ⟨rfl, hN, hall⟩ := Aw7.all M1 M2 M3
  obtain ⟨er, S4, T4, H4, R4, D⟩ := M3.inv.drops hN
  obtain ⟨rfl, hall⟩ := hall D
  have c1 := stmake_call h3 0 rfl (HT.out.mod h3.mod) M1
  have HM := Lib.hid (And.intro M1 (And.intro M2 (And.intro M3 (And.intro D @hall))))
  clear hm h1 h2 h3 I0 M1 M2 M3 hN D hall
  go_wp2_with fail
  try rw [hW3]
  refine c1.mono ?_
  rintro e w2 ⟨rfl, h⟩
  have h : Sep No w w2 [stR b 10 4294967295 S1 T1, cpR cb b, cellsAt C (rsV 640 10 4294967295) 91] := h
  have c2 := stmake_call h 0 rfl (HT.out.mod h.mod) HM.out.2.1
  clear c1 h j4 g4 j5 g5 hW2 hW3 hC
  go_wp2_with fail
  refine c2.mono ?_
  rintro e w3 ⟨rfl, h⟩
  have h : Sep No w w3 [stR b 10 4294967295 S2 T2, cpR cb b, cellsAt C (rsV 640 10 4294967295) 91] := h
  have c3 := stmake_call h 0 rfl (HT.out.mod h.mod) HM.out.2.2.1
  clear c2 h
  go_wp2_with fail
  refine c3.mono ?_
  rintro e w4 ⟨rfl, h⟩
  have h : Sep No w w4 [stR b 10 4294967295 S3 T3, cpR cb b, cellsAt C (rsV 640 10 4294967295) 91] := h
  have c4 := stdrop_call h 0 rfl HM.out.2.2.1.inv (hh := a1) ⟨HM.out.1.range.1, HM.out.1.range.2.1⟩ HM.out.2.2.2.1
  clear c3 h
  go_wp2_with fail
  refine c4.mono ?_
  rintro e w5 ⟨rfl, h⟩
  have h : Sep No w w5 [stR b 10 4294967295 S4 T4, cpR cb b, cellsAt C (rsV 640 10 4294967295) 91] := h
  have c5 := cstep_call h 0 1 rfl rfl HM.out.2.2.2.1.inv (HT.out.mod h.mod)
  clear c4 h
  go_wp2_with fail
  refine c5.mono ?_
  rintro e w6 ⟨is, S5, T5, H5, R5, ⟨rfl, D5⟩, h⟩
  have h : Sep No w w6 [stR b 10 4294967295 S5 T5, cpR cb b, cellsAt C (rsV 640 10 4294967295) 91] := h
  obtain ⟨rfl, hall⟩ := HM.out.2.2.2.2 D5
  have c6 := cstep_call h 0 1 rfl rfl D5.inv (HT.out.mod h.mod)
  have HA : Hid (∀ (is' : Bool) S6 T6 H6 R6, Stepped S5 T5 H5 R5 is' S6 T6 H6 R6 → is' = false) := fun _ _ _ _ _ d => hall d
  clear c5 h D5 hall
  go_wp2_with fail
  refine c6.mono ?_
  rintro e w7 ⟨is, S6, T6, H6, R6, ⟨rfl, D6⟩, h⟩
  have hf := HA.out _ _ _ _ _ D6
  subst hf
  have HMM := Lib.hid h.mod
  clear c6 h D6 HA HM
  go_wp2
  go_ret
  exact ⟨rfl, HMM.out⟩
end Go.Proofs.YtfmcddomciicdaaGreatDoor
