/- The laws' made of package loftlaw07, walked: a store, its compactor, and the document's store. Conditions: as the store's New. -/
import Derived.Test.YtfmcddomciicdaaGreatDoorCompactB
import Derived.Test.YtfmcddomciicdaaGreatDoorStoreWalk2
import Derived.Test.YtfmcddomciicdaaGreatDoorArgs
import Derived.Deep.RegionHeld3
set_option linter.unusedVariables false
set_option linter.unusedSimpArgs false
set_option maxRecDepth 100000
namespace Go.Proofs.YtfmcddomciicdaaGreatDoor
open Go Go.RowKit

theorem rtnew_ok (m l : Int) (h1 : 1 ≤ m) (h2 : m ≤ 65536) (h3 : 1 ≤ l) (w : World) :
    Calls Tryz.prog 139 #[.int .i64 m, .int .u32 l] w fun e w' => e = .returned (.tuple #[.agg #[.int .i64 m, .int .u32 l, .slice none 0 0], .int .i64 0]) ∧ Mod No w w' := by
  have d1 : decide (m < 1) = false := ltF h1
  have d2 : decide (65536 < m) = false := ltF h2
  have d3 : (l == 0) = false := beqF (by omega)
  have hm : ∀ o, Mod No w (w.alloc o) := fun o => (Mod.refl _ w).alloc o
  have HM := Lib.hid hm
  clear hm
  go_enter Tryz.func139, Tryz.ntmps139
  go_wp2
  exact bodyPost_ret (v := .tuple #[.agg #[.int .i64 m, .int .u32 l, .slice none 0 0], .int .i64 0]) (by simp [results, Tryz.results139, go_sem]) rfl ⟨rfl, HM.out _⟩

set_option maxHeartbeats 2000000 in
theorem rsnew_ok (q m l : Int) (q0 : 0 ≤ q) (q1 : q ≤ 262144) (h1 : 1 ≤ m) (h2 : m ≤ 65536) (h3 : 1 ≤ l) (w : World) :
    Calls Tryz.prog 94 #[.int .i64 q, .int .i64 m, .int .u32 l] w fun e w' => e = .returned (.tuple #[.agg #[.int .i64 q, .slice none 0 0, .int .i64 m, .int .u32 l, .slice none 0 0, .slice none 0 0], .int .i64 0]) ∧ Mod No w w' := by
  have d1 : decide (q < 0) = false := ltF q0
  have d2 : decide (262144 < q) = false := ltF q1
  have h0 := (Sep.nil w).pushCells #[.int .i64 0, .slice none 0 0, .int .i64 0, .int .u32 0, .slice none 0 0, .slice none 0 0] 91
  obtain ⟨B, hB⟩ : ∃ B, w.heap.size = B := ⟨_, rfl⟩
  obtain ⟨W1, hW1⟩ : ∃ W, w.alloc (.cells #[.int .i64 0, .slice none 0 0, .int .i64 0, .int .u32 0, .slice none 0 0, .slice none 0 0] 91) = W := ⟨_, rfl⟩
  rw [hB, hW1] at h0
  have h0 : Sep No w W1 [cellsAt B #[.int .i64 0, .slice none 0 0, .int .i64 0, .int .u32 0, .slice none 0 0, .slice none 0 0] 91] := h0
  have hc := rtnew_ok m l h1 h2 h3 W1
  have H0 := Lib.hid h0
  clear h0
  go_enter Tryz.func94, Tryz.ntmps94
  go_wp2_with fail
  refine hc.mono ?_
  rintro e w2 ⟨rfl, hm2⟩
  have h2 := (H0.out.more hm2).pushCells #[.int .i64 m, .int .u32 l, .slice none 0 0] 88
  obtain ⟨C, hC⟩ : ∃ C, w2.heap.size = C := ⟨_, rfl⟩
  obtain ⟨W2, hW2⟩ : ∃ W, w2.alloc (.cells #[.int .i64 m, .int .u32 l, .slice none 0 0] 88) = W := ⟨_, rfl⟩
  have hbc : B < C := by
    have := cell_lt ((H0.out.more hm2).cell 0 rfl 0 (v := .int .i64 0) rfl).1
    rw [hC] at this
    exact this
  have hne : B ≠ C := by omega
  have hne' : C ≠ B := by omega
  rw [hC, hW2] at h2
  have h2 : Sep No w W2 [cellsAt B #[.int .i64 0, .slice none 0 0, .int .i64 0, .int .u32 0, .slice none 0 0, .slice none 0 0] 91, cellsAt C #[.int .i64 m, .int .u32 l, .slice none 0 0] 88] := h2
  obtain ⟨k0, f0⟩ := h2.cell 0 rfl 0 (v := .int .i64 0) rfl
  obtain ⟨k1, f1⟩ := h2.cell 0 rfl 1 (v := .slice none 0 0) rfl
  obtain ⟨k2, f2⟩ := h2.cell 0 rfl 2 (v := .int .i64 0) rfl
  obtain ⟨k3, f3⟩ := h2.cell 0 rfl 3 (v := .int .u32 0) rfl
  obtain ⟨k4, f4⟩ := h2.cell 0 rfl 4 (v := .slice none 0 0) rfl
  obtain ⟨k5, f5⟩ := h2.cell 0 rfl 5 (v := .slice none 0 0) rfl
  obtain ⟨n0, g0⟩ := h2.cell 1 rfl 0 (v := .int .i64 m) rfl
  obtain ⟨n1, g1⟩ := h2.cell 1 rfl 1 (v := .int .u32 l) rfl
  obtain ⟨n2, g2⟩ := h2.cell 1 rfl 2 (v := .slice none 0 0) rfl
  have H2 := Lib.hid h2
  have h3 := (((((((h2.set 1 rfl 2 (.slice none 0 0)).set 0 rfl 0 (.int .i64 q)).set 0 rfl 1 (.slice none 0 0)).set 0 rfl 2 (.int .i64 m)).set 0 rfl 3 (.int .u32 l)).set 0 rfl 4 (.slice none 0 0)).set 0 rfl 5 (.slice none 0 0))
  clear hc hm2 H0 h2
  go_wp2_with fail
  have z0 := (h3.cell 0 rfl 0 (v := .int .i64 q) rfl).1
  have z1 := (h3.cell 0 rfl 1 (v := .slice none 0 0) rfl).1
  have z2 := (h3.cell 0 rfl 2 (v := .int .i64 m) rfl).1
  have z3 := (h3.cell 0 rfl 3 (v := .int .u32 l) rfl).1
  have z4 := (h3.cell 0 rfl 4 (v := .slice none 0 0) rfl).1
  have z5 := (h3.cell 0 rfl 5 (v := .slice none 0 0) rfl).1
  have HM := Lib.hid h3.mod
  clear h3
  generalize (((((((W2.setCell ⟨C, 2, none⟩ (.slice none 0 0)).setCell ⟨B, 0, none⟩ (.int .i64 q)).setCell ⟨B, 1, none⟩ (.slice none 0 0)).setCell ⟨B, 2, none⟩ (.int .i64 m)).setCell ⟨B, 3, none⟩ (.int .u32 l)).setCell ⟨B, 4, none⟩ (.slice none 0 0)).setCell ⟨B, 5, none⟩ (.slice none 0 0)) = W3 at *
  refine bodyPost_ret (v := .tuple #[.agg #[.int .i64 q, .slice none 0 0, .int .i64 m, .int .u32 l, .slice none 0 0, .slice none 0 0], .int .i64 0]) ?_ rfl ⟨rfl, HM.out⟩
  simp [results, Tryz.results94, go_sem, z0, z1, z2, z3, z4, z5]

abbrev rsV (q m l : Int) : Array Value := #[.int .i64 q, .slice none 0 0, .int .i64 m, .int .u32 l, .slice none 0 0, .slice none 0 0]
set_option maxRecDepth 100000 in
set_option maxHeartbeats 4000000 in
theorem made07_call (q m : Int) (q0 : 0 ≤ q) (q1 : q ≤ 262144) (h1 : 1 ≤ m) (h2 : m ≤ 65536) (w : World) :
    Calls Tryz.prog 39 #[.int .i64 q, .int .i64 m] w fun e w' => ∃ b cb : Nat, e = .returned (.tuple #[.pointer (some ⟨b, 0, none⟩), .pointer (some ⟨cb, 0, none⟩), .agg (rsV q m 4294967295), .bool true]) ∧ Sep No w w' [stR b m 4294967295 (Slb.empty q) ⟨m, 4294967295, []⟩, cpR cb b] := by
  have h0 := (Sep.nil w).pushCells #[.int .i64 0, .slice none 0 0, .int .i64 0, .int .u32 0, .slice none 0 0, .slice none 0 0] 91
  obtain ⟨B, hB⟩ : ∃ B, w.heap.size = B := ⟨_, rfl⟩
  obtain ⟨W1, hW1⟩ : ∃ W, w.alloc (.cells #[.int .i64 0, .slice none 0 0, .int .i64 0, .int .u32 0, .slice none 0 0, .slice none 0 0] 91) = W := ⟨_, rfl⟩
  rw [hB, hW1] at h0
  have h0 : Sep No w W1 [cellsAt B #[.int .i64 0, .slice none 0 0, .int .i64 0, .int .u32 0, .slice none 0 0, .slice none 0 0] 91] := h0
  have hn := stnew_call h0 q m 4294967295 q0 q1 h1 h2 (by omega) (by omega)
  have hI := Lib.hid (StInv.start (q := q) (m := m) (l := 4294967295) q0 q1 h1 h2 (by omega) (by omega))
  have hr := Lib.hid (fun W => rsnew_ok q m 4294967295 q0 q1 h1 h2 (by omega) W)
  clear h0
  go_enter Tryz.func39, Tryz.ntmps39
  go_wp2_with fail
  refine hn.mono ?_
  rintro e w2 ⟨b, rfl, h2'⟩
  have h2' : Sep No w w2 [cellsAt B #[.int .i64 0, .slice none 0 0, .int .i64 0, .int .u32 0, .slice none 0 0, .slice none 0 0] 91, stR b m 4294967295 (Slb.empty q) ⟨m, 4294967295, []⟩] := h2'
  have hc := cnew_call h2' 1 rfl hI.out
  clear hn h2'
  go_wp2_with fail
  refine hc.mono ?_
  rintro e w3 ⟨cb, rfl, h3⟩
  have h3 : Sep No w w3 [cellsAt B #[.int .i64 0, .slice none 0 0, .int .i64 0, .int .u32 0, .slice none 0 0, .slice none 0 0] 91, stR b m 4294967295 (Slb.empty q) ⟨m, 4294967295, []⟩, cpR cb b] := h3
  have H3 := Lib.hid h3
  have hr3 := hr.out w3
  clear hc h3 hr
  go_wp2_with fail
  refine hr3.mono ?_
  rintro e w4 ⟨rfl, hm4⟩
  have h4 := (H3.out.more hm4).pushCells (rsV q m 4294967295) 91
  obtain ⟨C, hC⟩ : ∃ C, w4.heap.size = C := ⟨_, rfl⟩
  obtain ⟨W4, hW4⟩ : ∃ W, w4.alloc (.cells (rsV q m 4294967295) 91) = W := ⟨_, rfl⟩
  have hbc : B < C := by
    have := cell_lt ((H3.out.more hm4).cell 0 rfl 0 (v := .int .i64 0) rfl).1
    rw [hC] at this
    exact this
  have hne : B ≠ C := by omega
  have hne' : C ≠ B := by omega
  rw [hC, hW4] at h4
  have h4 : Sep No w W4 [cellsAt B #[.int .i64 0, .slice none 0 0, .int .i64 0, .int .u32 0, .slice none 0 0, .slice none 0 0] 91, stR b m 4294967295 (Slb.empty q) ⟨m, 4294967295, []⟩, cpR cb b, cellsAt C (rsV q m 4294967295) 91] := h4
  obtain ⟨j4, g4⟩ := h4.cell 3 rfl 4 (v := .slice none 0 0) rfl
  obtain ⟨j5, g5⟩ := h4.cell 3 rfl 5 (v := .slice none 0 0) rfl
  have h5 := (h4.set 3 rfl 4 (.slice none 0 0)).set 3 rfl 5 (.slice none 0 0)
  have h5 : Sep No w ((W4.setCell ⟨C, 4, none⟩ (.slice none 0 0)).setCell ⟨C, 5, none⟩ (.slice none 0 0)) [cellsAt B #[.int .i64 0, .slice none 0 0, .int .i64 0, .int .u32 0, .slice none 0 0, .slice none 0 0] 91, stR b m 4294967295 (Slb.empty q) ⟨m, 4294967295, []⟩, cpR cb b, cellsAt C (rsV q m 4294967295) 91] := h5
  have H4 := Lib.hid h4
  have H5 := Lib.hid h5
  clear hr3 hm4 H3 h4 h5
  go_wp2_with fail
  obtain ⟨W5, hW5⟩ : ∃ W, ((W4.setCell ⟨C, 4, none⟩ (.slice none 0 0)).setCell ⟨C, 5, none⟩ (.slice none 0 0)) = W := ⟨_, rfl⟩
  rw [hW5] at H5 ⊢
  have H6 := Lib.hid H5.out.drew
  obtain ⟨W6, hW6⟩ : ∃ W, W5.drew = W := ⟨_, rfl⟩
  rw [hW6] at H6
  have k0 := (H6.out.cell 3 rfl 0 (v := .int .i64 q) rfl).1
  have k1 := (H6.out.cell 3 rfl 1 (v := .slice none 0 0) rfl).1
  have k2 := (H6.out.cell 3 rfl 2 (v := .int .i64 m) rfl).1
  have k3 := (H6.out.cell 3 rfl 3 (v := .int .u32 4294967295) rfl).1
  have k4 := (H6.out.cell 3 rfl 4 (v := .slice none 0 0) rfl).1
  have k5 := (H6.out.cell 3 rfl 5 (v := .slice none 0 0) rfl).1
  clear j4 g4 j5 g5 hW4 hW5 hW1 H5 H4
  refine wp_region_held_drew (S := fun w' => w'.cell? ⟨C, 0, none⟩ = some (.int .i64 q) ∧ w'.cell? ⟨C, 1, none⟩ = some (.slice none 0 0) ∧ w'.cell? ⟨C, 2, none⟩ = some (.int .i64 m) ∧ w'.cell? ⟨C, 3, none⟩ = some (.int .u32 4294967295) ∧ w'.cell? ⟨C, 4, none⟩ = some (.slice none 0 0) ∧ w'.cell? ⟨C, 5, none⟩ = some (.slice none 0 0)) (by kernel_rfl) (by rw [hW6]; exact ⟨k0, k1, k2, k3, k4, k5⟩) (fun hHeld => ?_)
  rw [hW6] at hHeld ⊢
  clear k0 k1 k2 k3 k4 k5 hW6
  refine wpAnyH_takeD (i := 0) (v := ?_) (some 31) rfl (by rfl) (by kernel_rfl) (by kernel_rfl) (by kernel_rfl) (fun _ _ _ h => h) (Or.inl ⟨by rfl, ?_⟩) (by assumption) ?_
  rotate_left
  · intro w hSw
    try dsimp only at hSw
    go_simp
    try with_reducible rfl
  simp only [Act.put, List.setIfInBounds_toArray, List.set_cons_zero, List.set_cons_succ]
  refine wpAnyH_takeD (i := 1) (v := ?_) (some 32) rfl (by rfl) (by kernel_rfl) (by kernel_rfl) (by kernel_rfl) (fun _ _ _ h => h) (Or.inl ⟨by rfl, ?_⟩) (by assumption) ?_
  rotate_left
  · intro w hSw
    try dsimp only at hSw
    go_simp
    try with_reducible rfl
  simp only [Act.put, List.setIfInBounds_toArray, List.set_cons_zero, List.set_cons_succ]
  refine wpAnyH_takeD (i := 2) (v := ?_) (some 33) rfl (by rfl) (by kernel_rfl) (by kernel_rfl) (by kernel_rfl) (fun _ _ _ h => h) (Or.inl ⟨by rfl, ?_⟩) (by assumption) ?_
  rotate_left
  · intro w hSw
    try dsimp only at hSw
    go_simp
    try with_reducible rfl
  simp only [Act.put, List.setIfInBounds_toArray, List.set_cons_zero, List.set_cons_succ]
  refine wpAnyH_takeD (i := 3) (v := ?_) (some 34) rfl (by rfl) (by kernel_rfl) (by kernel_rfl) (by kernel_rfl) (fun _ _ _ h => h) (Or.inl ⟨by rfl, ?_⟩) (by assumption) ?_
  rotate_left
  · intro w hSw
    try dsimp only at hSw
    go_simp
    try with_reducible rfl
  simp only [Act.put, List.setIfInBounds_toArray, List.set_cons_zero, List.set_cons_succ]
  refine wpAnyH_takeD (i := 4) (v := ?_) (some 35) rfl (by rfl) (by kernel_rfl) (by kernel_rfl) (by kernel_rfl) (fun _ _ _ h => h) (Or.inl ⟨by rfl, ?_⟩) (by assumption) ?_
  rotate_left
  · intro w hSw
    try dsimp only at hSw
    go_simp
    try with_reducible rfl
  simp only [Act.put, List.setIfInBounds_toArray, List.set_cons_zero, List.set_cons_succ]
  refine wpAnyH_takeD (i := 5) (v := ?_) (some 36) rfl (by rfl) (by kernel_rfl) (by kernel_rfl) (by kernel_rfl) (fun _ _ _ h => h) (Or.inl ⟨by rfl, ?_⟩) (by assumption) ?_
  rotate_left
  · intro w hSw
    try dsimp only at hSw
    go_simp
    try with_reducible rfl
  simp only [Act.put, List.setIfInBounds_toArray, List.set_cons_zero, List.set_cons_succ]
  refine wpAnyH_takeD (i := 6) (v := ?_) (some 37) rfl (by rfl) (by kernel_rfl) (by kernel_rfl) (by kernel_rfl) (fun _ _ _ h => h) (Or.inl ⟨by rfl, ?_⟩) (by assumption) ?_
  rotate_left
  · intro w hSw
    try dsimp only at hSw
    go_simp
    try with_reducible rfl
  simp only [Act.put, List.setIfInBounds_toArray, List.set_cons_zero, List.set_cons_succ]
  refine wpAnyH_takeD (i := 7) (v := ?_) (some 38) rfl (by rfl) (by kernel_rfl) (by kernel_rfl) (by kernel_rfl) (fun _ _ _ h => h) (Or.inl ⟨by rfl, ?_⟩) (by assumption) ?_
  rotate_left
  · intro w hSw
    try dsimp only at hSw
    go_simp
    try with_reducible rfl
  simp only [Act.put, List.setIfInBounds_toArray, List.set_cons_zero, List.set_cons_succ]
  refine wpAnyH_takeD (i := 8) (v := ?_) (some 39) rfl (by rfl) (by kernel_rfl) (by kernel_rfl) (by kernel_rfl) (fun _ _ _ h => h) (Or.inl ⟨by rfl, ?_⟩) (by assumption) ?_
  rotate_left
  · intro w hSw
    try dsimp only at hSw
    go_simp
    try with_reducible rfl
  simp only [Act.put, List.setIfInBounds_toArray, List.set_cons_zero, List.set_cons_succ]
  refine wpAnyH_takeD (i := 9) (v := ?_) (some 40) rfl (by rfl) (by kernel_rfl) (by kernel_rfl) (by kernel_rfl) (fun _ _ _ h => h) (Or.inl ⟨by rfl, ?_⟩) (by assumption) ?_
  rotate_left
  · intro w hSw
    try dsimp only at hSw
    go_simp
    try with_reducible rfl
  simp only [Act.put, List.setIfInBounds_toArray, List.set_cons_zero, List.set_cons_succ]
  refine wpAnyH_takeD (i := 10) (v := ?_) (some 41) rfl (by rfl) (by kernel_rfl) (by kernel_rfl) (by kernel_rfl) (fun _ _ _ h => h) (Or.inl ⟨by rfl, ?_⟩) (by assumption) ?_
  rotate_left
  · intro w hSw
    try dsimp only at hSw
    go_simp
    try with_reducible rfl
  simp only [Act.put, List.setIfInBounds_toArray, List.set_cons_zero, List.set_cons_succ]
  refine wpAnyH_takeD (i := 11) (v := ?_) (some 42) rfl (by rfl) (by kernel_rfl) (by kernel_rfl) (by kernel_rfl) (fun _ _ _ h => h) (Or.inl ⟨by rfl, ?_⟩) (by assumption) ?_
  rotate_left
  · intro w hSw
    try dsimp only at hSw
    go_simp
    try with_reducible rfl
  simp only [Act.put, List.setIfInBounds_toArray, List.set_cons_zero, List.set_cons_succ]
  refine wpAnyH_takeD (i := 12) (v := ?_) (some 43) rfl (by rfl) (by kernel_rfl) (by kernel_rfl) (by kernel_rfl) (fun _ _ _ h => h) (Or.inl ⟨by rfl, ?_⟩) (by assumption) ?_
  rotate_left
  · intro w hSw
    try dsimp only at hSw
    go_simp
    try with_reducible rfl
  simp only [Act.put, List.setIfInBounds_toArray, List.set_cons_zero, List.set_cons_succ]
  refine wpAnyH_takeD (i := 13) (v := ?_) (some 44) rfl (by rfl) (by kernel_rfl) (by kernel_rfl) (by kernel_rfl) (fun _ _ _ h => h) (Or.inl ⟨by rfl, ?_⟩) (by assumption) ?_
  rotate_left
  · intro w hSw
    try dsimp only at hSw
    go_simp
    try with_reducible rfl
  simp only [Act.put, List.setIfInBounds_toArray, List.set_cons_zero, List.set_cons_succ]
  refine wpAnyH_takeD (i := 14) (v := ?_) (some 45) rfl (by rfl) (by kernel_rfl) (by kernel_rfl) (by kernel_rfl) (fun _ _ _ h => h) (Or.inl ⟨by rfl, ?_⟩) (by assumption) ?_
  rotate_left
  · intro w hSw
    try dsimp only at hSw
    go_simp
    try with_reducible rfl
  simp only [Act.put, List.setIfInBounds_toArray, List.set_cons_zero, List.set_cons_succ]
  refine wpAnyH_takeD (i := 15) (v := ?_) (some 46) rfl (by rfl) (by kernel_rfl) (by kernel_rfl) (by kernel_rfl) (fun _ _ _ h => h) (Or.inl ⟨by rfl, ?_⟩) (by assumption) ?_
  rotate_left
  · intro w hSw
    try dsimp only at hSw
    go_simp
    try with_reducible rfl
  simp only [Act.put, List.setIfInBounds_toArray, List.set_cons_zero, List.set_cons_succ]
  refine wpAnyH_takeD (i := 16) (v := ?_) (some 47) rfl (by rfl) (by kernel_rfl) (by kernel_rfl) (by kernel_rfl) (fun _ _ _ h => h) (Or.inl ⟨by rfl, ?_⟩) (by assumption) ?_
  rotate_left
  · intro w hSw
    try dsimp only at hSw
    go_simp
    try with_reducible rfl
  simp only [Act.put, List.setIfInBounds_toArray, List.set_cons_zero, List.set_cons_succ]
  refine wpAnyH_takeD (i := 17) (v := ?_) (some 4) rfl (by rfl) (by kernel_rfl) (by kernel_rfl) (by kernel_rfl) (fun _ _ _ h => h) (Or.inl ⟨by rfl, ?_⟩) (by assumption) ?_
  rotate_left
  · intro w hSw
    try dsimp only at hSw
    go_simp
    try with_reducible rfl
  simp only [Act.put, List.setIfInBounds_toArray, List.set_cons_zero, List.set_cons_succ]
  refine wpAnyH_takeD (i := 18) (v := ?_) (some 5) rfl (by rfl) (by kernel_rfl) (by kernel_rfl) (by kernel_rfl) (fun _ _ _ h => h) (Or.inl ⟨by rfl, ?_⟩) (by assumption) ?_
  rotate_left
  · intro w hSw
    try dsimp only at hSw
    go_simp
    try with_reducible rfl
  simp only [Act.put, List.setIfInBounds_toArray, List.set_cons_zero, List.set_cons_succ]
  obtain ⟨k0, f0⟩ := H6.out.cell 0 rfl 0 (v := .int .i64 0) rfl
  obtain ⟨k1, f1⟩ := H6.out.cell 0 rfl 1 (v := .slice none 0 0) rfl
  obtain ⟨k2, f2⟩ := H6.out.cell 0 rfl 2 (v := .int .i64 0) rfl
  obtain ⟨k3, f3⟩ := H6.out.cell 0 rfl 3 (v := .int .u32 0) rfl
  obtain ⟨k4, f4⟩ := H6.out.cell 0 rfl 4 (v := .slice none 0 0) rfl
  obtain ⟨k5, f5⟩ := H6.out.cell 0 rfl 5 (v := .slice none 0 0) rfl
  have h7 := (((((H6.out.set 0 rfl 0 (.int .i64 q)).set 0 rfl 1 (.slice none 0 0)).set 0 rfl 2 (.int .i64 m)).set 0 rfl 3 (.int .u32 4294967295)).set 0 rfl 4 (.slice none 0 0)).set 0 rfl 5 (.slice none 0 0)
  generalize hW7 : (((((W6.setCell ⟨B, 0, none⟩ (.int .i64 q)).setCell ⟨B, 1, none⟩ (.slice none 0 0)).setCell ⟨B, 2, none⟩ (.int .i64 m)).setCell ⟨B, 3, none⟩ (.int .u32 4294967295)).setCell ⟨B, 4, none⟩ (.slice none 0 0)).setCell ⟨B, 5, none⟩ (.slice none 0 0) = W7 at h7
  have h7 : Sep No w W7 [cellsAt B (rsV q m 4294967295) 91, stR b m 4294967295 (Slb.empty q) ⟨m, 4294967295, []⟩, cpR cb b, cellsAt C (rsV q m 4294967295) 91] := h7
  have HZ := And.intro (h7.cell 3 rfl 0 (v := .int .i64 q) rfl).1 (And.intro (h7.cell 3 rfl 1 (v := .slice none 0 0) rfl).1 (And.intro (h7.cell 3 rfl 2 (v := .int .i64 m) rfl).1 (And.intro (h7.cell 3 rfl 3 (v := .int .u32 4294967295) rfl).1 (And.intro (h7.cell 3 rfl 4 (v := .slice none 0 0) rfl).1 (h7.cell 3 rfl 5 (v := .slice none 0 0) rfl).1))))
  have H7 := Lib.hid h7
  clear h7
  refine wpAnyH_ready (rs := [19]) (by kernel_rfl) (by simp) ?_
  refine AllReadyH.cons rfl (fun K hK => ?_) AllReadyH.nil
  go_simp
  try rw [hW7]
  refine hK.out _ _ HZ (fun _ => ?_)
  clear hK K k0 k1 k2 k3 k4 k5 f0 f1 f2 f3 f4 f5 hHeld
  have hHeld := HZ
  try simp only [Act.put, List.setIfInBounds_toArray, List.set_cons_zero, List.set_cons_succ]
  refine wpAnyH_takeD (i := 20) (v := ?_) (some 7) rfl (by rfl) (by kernel_rfl) (by kernel_rfl) (by kernel_rfl) (fun _ _ _ h => h) (Or.inl ⟨by rfl, ?_⟩) (by assumption) ?_
  rotate_left
  · intro w hSw
    try dsimp only at hSw
    go_simp
    try with_reducible rfl
  simp only [Act.put, List.setIfInBounds_toArray, List.set_cons_zero, List.set_cons_succ]
  refine wpAnyH_done (by kernel_rfl) ?_ _
  have z0 := (H7.out.cell 0 rfl 0 (v := .int .i64 q) rfl).1
  have z1 := (H7.out.cell 0 rfl 1 (v := .slice none 0 0) rfl).1
  have z2 := (H7.out.cell 0 rfl 2 (v := .int .i64 m) rfl).1
  have z3 := (H7.out.cell 0 rfl 3 (v := .int .u32 4294967295) rfl).1
  have z4 := (H7.out.cell 0 rfl 4 (v := .slice none 0 0) rfl).1
  have z5 := (H7.out.cell 0 rfl 5 (v := .slice none 0 0) rfl).1
  have H8 : Hid (Sep No w W7 [stR b m 4294967295 (Slb.empty q) ⟨m, 4294967295, []⟩, cpR cb b]) := H7.out.pick (fun i => i + 1) (fun i hi => by match i, hi with | 0, _ => rfl | 1, _ => rfl) (fun i j hi hj hij => by omega)
  clear H6 H7 hHeld HZ
  go_wp2_with fail
  refine bodyPost_ret (v := .tuple #[.pointer (some ⟨b, 0, none⟩), .pointer (some ⟨cb, 0, none⟩), .agg (rsV q m 4294967295), .bool true]) ?_ rfl ⟨b, cb, rfl, H8.out⟩
  simp [results, Tryz.results39, go_sem, z0, z1, z2, z3, z4, z5]
end Go.Proofs.YtfmcddomciicdaaGreatDoor
