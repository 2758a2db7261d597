/- The laws' made of package loftlaw07, walked: a store, its compactor, and the document's store. Conditions: as the store's New. | What a new store's three records do when the first is dropped: the last goes to its place, then all rest. No program stands here. No condition. | The laws' awake of package loftlaw07, walked. Condition: the table of math/bits holds what its initialiser lays. -/
import Derived.Test.YtmdnofojecncgaaGreatDoorCompactB
import Derived.Test.YtmdnofojecncgaaGreatDoorStoreWalk2
import Derived.Test.YtmdnofojecncgaaGreatDoorArgs
import Derived.Deep.RegionHeld3
import Derived.Test.YtmdnofojecncgaaGreatDoorStoreMake
set_option linter.unusedVariables false
set_option linter.unusedSimpArgs false
set_option maxRecDepth 100000
namespace Go.Proofs.YtmdnofojecncgaaGreatDoor
open Go Go.RowKit

theorem rtnew_ok (m l : Int) (h1 : 1 ≤ m) (h2 : m ≤ 65536) (h3 : 1 ≤ l) (w : World) :
    Calls Tryz.prog 80 #[.int .i64 m, .int .u32 l] w fun e w' => e = .returned (.tuple #[.agg #[.int .i64 m, .int .u32 l, .slice none 0 0], .int .i64 0]) ∧ Mod No w w' := by
  have d1 : decide (m < 1) = false := ltF h1
  have d2 : decide (65536 < m) = false := ltF h2
  have d3 : (l == 0) = false := beqF (by omega)
  have hm : ∀ o, Mod No w (w.alloc o) := fun o => (Mod.refl _ w).alloc o
  have HM := Lib.hid hm
  clear hm
  go_enter Tryz.func80, Tryz.ntmps80
  go_wp2
  exact bodyPost_ret (v := .tuple #[.agg #[.int .i64 m, .int .u32 l, .slice none 0 0], .int .i64 0]) (by simp [results, Tryz.results80, go_sem]) rfl ⟨rfl, HM.out _⟩

set_option maxHeartbeats 2000000 in
theorem rsnew_ok (q m l : Int) (q0 : 0 ≤ q) (q1 : q ≤ 262144) (h1 : 1 ≤ m) (h2 : m ≤ 65536) (h3 : 1 ≤ l) (w : World) :
    Calls Tryz.prog 42 #[.int .i64 q, .int .i64 m, .int .u32 l] w fun e w' => e = .returned (.tuple #[.agg #[.int .i64 q, .slice none 0 0, .int .i64 m, .int .u32 l, .slice none 0 0, .slice none 0 0], .int .i64 0]) ∧ Mod No w w' := by
  have d1 : decide (q < 0) = false := ltF q0
  have d2 : decide (262144 < q) = false := ltF q1
  have h0 := (Sep.nil w).pushCells #[.int .i64 0, .slice none 0 0, .int .i64 0, .int .u32 0, .slice none 0 0, .slice none 0 0] 35
  obtain ⟨B, hB⟩ : ∃ B, w.heap.size = B := ⟨_, rfl⟩
  obtain ⟨W1, hW1⟩ : ∃ W, w.alloc (.cells #[.int .i64 0, .slice none 0 0, .int .i64 0, .int .u32 0, .slice none 0 0, .slice none 0 0] 35) = W := ⟨_, rfl⟩
  rw [hB, hW1] at h0
  have h0 : Sep No w W1 [cellsAt B #[.int .i64 0, .slice none 0 0, .int .i64 0, .int .u32 0, .slice none 0 0, .slice none 0 0] 35] := h0
  have hc := rtnew_ok m l h1 h2 h3 W1
  have H0 := Lib.hid h0
  clear h0
  go_enter Tryz.func42, Tryz.ntmps42
  go_wp2_with fail
  refine hc.mono ?_
  rintro e w2 ⟨rfl, hm2⟩
  have h2 := (H0.out.more hm2).pushCells #[.int .i64 m, .int .u32 l, .slice none 0 0] 32
  obtain ⟨C, hC⟩ : ∃ C, w2.heap.size = C := ⟨_, rfl⟩
  obtain ⟨W2, hW2⟩ : ∃ W, w2.alloc (.cells #[.int .i64 m, .int .u32 l, .slice none 0 0] 32) = W := ⟨_, rfl⟩
  have hbc : B < C := by
    have := cell_lt ((H0.out.more hm2).cell 0 rfl 0 (v := .int .i64 0) rfl).1
    rw [hC] at this
    exact this
  have hne : B ≠ C := by omega
  have hne' : C ≠ B := by omega
  rw [hC, hW2] at h2
  have h2 : Sep No w W2 [cellsAt B #[.int .i64 0, .slice none 0 0, .int .i64 0, .int .u32 0, .slice none 0 0, .slice none 0 0] 35, cellsAt C #[.int .i64 m, .int .u32 l, .slice none 0 0] 32] := h2
  obtain ⟨k0, f0⟩ := h2.cell 0 rfl 0 (v := .int .i64 0) rfl
  obtain ⟨k1, f1⟩ := h2.cell 0 rfl 1 (v := .slice none 0 0) rfl
  obtain ⟨k2, f2⟩ := h2.cell 0 rfl 2 (v := .int .i64 0) rfl
  obtain ⟨k3, f3⟩ := h2.cell 0 rfl 3 (v := .int .u32 0) rfl
  obtain ⟨k4, f4⟩ := h2.cell 0 rfl 4 (v := .slice none 0 0) rfl
  obtain ⟨k5, f5⟩ := h2.cell 0 rfl 5 (v := .slice none 0 0) rfl
  obtain ⟨n0, g0⟩ := h2.cell 1 rfl 0 (v := .int .i64 m) rfl
  obtain ⟨n1, g1⟩ := h2.cell 1 rfl 1 (v := .int .u32 l) rfl
  obtain ⟨n2, g2⟩ := h2.cell 1 rfl 2 (v := .slice none 0 0) rfl
  have H2 := Lib.hid h2
  have h3 := (((((((h2.set 1 rfl 2 (.slice none 0 0)).set 0 rfl 0 (.int .i64 q)).set 0 rfl 1 (.slice none 0 0)).set 0 rfl 2 (.int .i64 m)).set 0 rfl 3 (.int .u32 l)).set 0 rfl 4 (.slice none 0 0)).set 0 rfl 5 (.slice none 0 0))
  clear hc hm2 H0 h2
  go_wp2_with fail
  have z0 := (h3.cell 0 rfl 0 (v := .int .i64 q) rfl).1
  have z1 := (h3.cell 0 rfl 1 (v := .slice none 0 0) rfl).1
  have z2 := (h3.cell 0 rfl 2 (v := .int .i64 m) rfl).1
  have z3 := (h3.cell 0 rfl 3 (v := .int .u32 l) rfl).1
  have z4 := (h3.cell 0 rfl 4 (v := .slice none 0 0) rfl).1
  have z5 := (h3.cell 0 rfl 5 (v := .slice none 0 0) rfl).1
  have HM := Lib.hid h3.mod
  clear h3
  generalize (((((((W2.setCell ⟨C, 2, none⟩ (.slice none 0 0)).setCell ⟨B, 0, none⟩ (.int .i64 q)).setCell ⟨B, 1, none⟩ (.slice none 0 0)).setCell ⟨B, 2, none⟩ (.int .i64 m)).setCell ⟨B, 3, none⟩ (.int .u32 l)).setCell ⟨B, 4, none⟩ (.slice none 0 0)).setCell ⟨B, 5, none⟩ (.slice none 0 0)) = W3 at *
  refine bodyPost_ret (v := .tuple #[.agg #[.int .i64 q, .slice none 0 0, .int .i64 m, .int .u32 l, .slice none 0 0, .slice none 0 0], .int .i64 0]) ?_ rfl ⟨rfl, HM.out⟩
  simp [results, Tryz.results42, go_sem, z0, z1, z2, z3, z4, z5]

abbrev rsV (q m l : Int) : Array Value := #[.int .i64 q, .slice none 0 0, .int .i64 m, .int .u32 l, .slice none 0 0, .slice none 0 0]
set_option maxRecDepth 100000 in
set_option maxHeartbeats 4000000 in
theorem made07_call (q m : Int) (q0 : 0 ≤ q) (q1 : q ≤ 262144) (h1 : 1 ≤ m) (h2 : m ≤ 65536) (w : World) :
    Calls Tryz.prog 11 #[.int .i64 q, .int .i64 m] w fun e w' => ∃ b cb : Nat, e = .returned (.tuple #[.pointer (some ⟨b, 0, none⟩), .pointer (some ⟨cb, 0, none⟩), .agg (rsV q m 4294967295), .bool true]) ∧ Sep No w w' [stR b m 4294967295 (Slb.empty q) ⟨m, 4294967295, []⟩, cpR cb b] := by
  have h0 := (Sep.nil w).pushCells #[.int .i64 0, .slice none 0 0, .int .i64 0, .int .u32 0, .slice none 0 0, .slice none 0 0] 35
  obtain ⟨B, hB⟩ : ∃ B, w.heap.size = B := ⟨_, rfl⟩
  obtain ⟨W1, hW1⟩ : ∃ W, w.alloc (.cells #[.int .i64 0, .slice none 0 0, .int .i64 0, .int .u32 0, .slice none 0 0, .slice none 0 0] 35) = W := ⟨_, rfl⟩
  rw [hB, hW1] at h0
  have h0 : Sep No w W1 [cellsAt B #[.int .i64 0, .slice none 0 0, .int .i64 0, .int .u32 0, .slice none 0 0, .slice none 0 0] 35] := h0
  have hn := stnew_call h0 q m 4294967295 q0 q1 h1 h2 (by omega) (by omega)
  have hI := Lib.hid (StInv.start (q := q) (m := m) (l := 4294967295) q0 q1 h1 h2 (by omega) (by omega))
  have hr := Lib.hid (fun W => rsnew_ok q m 4294967295 q0 q1 h1 h2 (by omega) W)
  clear h0
  go_enter Tryz.func11, Tryz.ntmps11
  go_wp2_with fail
  refine hn.mono ?_
  rintro e w2 ⟨b, rfl, h2'⟩
  have h2' : Sep No w w2 [cellsAt B #[.int .i64 0, .slice none 0 0, .int .i64 0, .int .u32 0, .slice none 0 0, .slice none 0 0] 35, stR b m 4294967295 (Slb.empty q) ⟨m, 4294967295, []⟩] := h2'
  have hc := cnew_call h2' 1 rfl hI.out
  clear hn h2'
  go_wp2_with fail
  refine hc.mono ?_
  rintro e w3 ⟨cb, rfl, h3⟩
  have h3 : Sep No w w3 [cellsAt B #[.int .i64 0, .slice none 0 0, .int .i64 0, .int .u32 0, .slice none 0 0, .slice none 0 0] 35, stR b m 4294967295 (Slb.empty q) ⟨m, 4294967295, []⟩, cpR cb b] := h3
  have H3 := Lib.hid h3
  have hr3 := hr.out w3
  clear hc h3 hr
  go_wp2_with fail
  refine hr3.mono ?_
  rintro e w4 ⟨rfl, hm4⟩
  have h4 := (H3.out.more hm4).pushCells (rsV q m 4294967295) 35
  obtain ⟨C, hC⟩ : ∃ C, w4.heap.size = C := ⟨_, rfl⟩
  obtain ⟨W4, hW4⟩ : ∃ W, w4.alloc (.cells (rsV q m 4294967295) 35) = W := ⟨_, rfl⟩
  have hbc : B < C := by
    have := cell_lt ((H3.out.more hm4).cell 0 rfl 0 (v := .int .i64 0) rfl).1
    rw [hC] at this
    exact this
  have hne : B ≠ C := by omega
  have hne' : C ≠ B := by omega
  rw [hC, hW4] at h4
  have h4 : Sep No w W4 [cellsAt B #[.int .i64 0, .slice none 0 0, .int .i64 0, .int .u32 0, .slice none 0 0, .slice none 0 0] 35, stR b m 4294967295 (Slb.empty q) ⟨m, 4294967295, []⟩, cpR cb b, cellsAt C (rsV q m 4294967295) 35] := h4
  obtain ⟨j4, g4⟩ := h4.cell 3 rfl 4 (v := .slice none 0 0) rfl
  obtain ⟨j5, g5⟩ := h4.cell 3 rfl 5 (v := .slice none 0 0) rfl
  have h5 := (h4.set 3 rfl 4 (.slice none 0 0)).set 3 rfl 5 (.slice none 0 0)
  have h5 : Sep No w ((W4.setCell ⟨C, 4, none⟩ (.slice none 0 0)).setCell ⟨C, 5, none⟩ (.slice none 0 0)) [cellsAt B #[.int .i64 0, .slice none 0 0, .int .i64 0, .int .u32 0, .slice none 0 0, .slice none 0 0] 35, stR b m 4294967295 (Slb.empty q) ⟨m, 4294967295, []⟩, cpR cb b, cellsAt C (rsV q m 4294967295) 35] := h5
  have H4 := Lib.hid h4
  have H5 := Lib.hid h5
  clear hr3 hm4 H3 h4 h5
  go_wp2_with fail
  obtain ⟨W5, hW5⟩ : ∃ W, ((W4.setCell ⟨C, 4, none⟩ (.slice none 0 0)).setCell ⟨C, 5, none⟩ (.slice none 0 0)) = W := ⟨_, rfl⟩
  rw [hW5] at H5 ⊢
  have H6 := Lib.hid H5.out.drew
  obtain ⟨W6, hW6⟩ : ∃ W, W5.drew = W := ⟨_, rfl⟩
  rw [hW6] at H6
  have k0 := (H6.out.cell 3 rfl 0 (v := .int .i64 q) rfl).1
  have k1 := (H6.out.cell 3 rfl 1 (v := .slice none 0 0) rfl).1
  have k2 := (H6.out.cell 3 rfl 2 (v := .int .i64 m) rfl).1
  have k3 := (H6.out.cell 3 rfl 3 (v := .int .u32 4294967295) rfl).1
  have k4 := (H6.out.cell 3 rfl 4 (v := .slice none 0 0) rfl).1
  have k5 := (H6.out.cell 3 rfl 5 (v := .slice none 0 0) rfl).1
  clear j4 g4 j5 g5 hW4 hW5 hW1 H5 H4
  refine wp_region_held_drew (S := fun w' => w'.cell? ⟨C, 0, none⟩ = some (.int .i64 q) ∧ w'.cell? ⟨C, 1, none⟩ = some (.slice none 0 0) ∧ w'.cell? ⟨C, 2, none⟩ = some (.int .i64 m) ∧ w'.cell? ⟨C, 3, none⟩ = some (.int .u32 4294967295) ∧ w'.cell? ⟨C, 4, none⟩ = some (.slice none 0 0) ∧ w'.cell? ⟨C, 5, none⟩ = some (.slice none 0 0)) (by kernel_rfl) (by rw [hW6]; exact ⟨k0, k1, k2, k3, k4, k5⟩) (fun hHeld => ?_)
  rw [hW6] at hHeld ⊢
  clear k0 k1 k2 k3 k4 k5 hW6
  refine wpAnyH_takeD (i := 0) (v := ?_) (some 31) rfl (by rfl) (by kernel_rfl) (by kernel_rfl) (by kernel_rfl) (fun _ _ _ h => h) (Or.inl ⟨by rfl, ?_⟩) (by assumption) ?_
  rotate_left
  · intro w hSw
    try dsimp only at hSw
    go_simp
    try with_reducible rfl
  simp only [Act.put, List.setIfInBounds_toArray, List.set_cons_zero, List.set_cons_succ]
  refine wpAnyH_takeD (i := 1) (v := ?_) (some 32) rfl (by rfl) (by kernel_rfl) (by kernel_rfl) (by kernel_rfl) (fun _ _ _ h => h) (Or.inl ⟨by rfl, ?_⟩) (by assumption) ?_
  rotate_left
  · intro w hSw
    try dsimp only at hSw
    go_simp
    try with_reducible rfl
  simp only [Act.put, List.setIfInBounds_toArray, List.set_cons_zero, List.set_cons_succ]
  refine wpAnyH_takeD (i := 2) (v := ?_) (some 33) rfl (by rfl) (by kernel_rfl) (by kernel_rfl) (by kernel_rfl) (fun _ _ _ h => h) (Or.inl ⟨by rfl, ?_⟩) (by assumption) ?_
  rotate_left
  · intro w hSw
    try dsimp only at hSw
    go_simp
    try with_reducible rfl
  simp only [Act.put, List.setIfInBounds_toArray, List.set_cons_zero, List.set_cons_succ]
  refine wpAnyH_takeD (i := 3) (v := ?_) (some 34) rfl (by rfl) (by kernel_rfl) (by kernel_rfl) (by kernel_rfl) (fun _ _ _ h => h) (Or.inl ⟨by rfl, ?_⟩) (by assumption) ?_
  rotate_left
  · intro w hSw
    try dsimp only at hSw
    go_simp
    try with_reducible rfl
  simp only [Act.put, List.setIfInBounds_toArray, List.set_cons_zero, List.set_cons_succ]
  refine wpAnyH_takeD (i := 4) (v := ?_) (some 35) rfl (by rfl) (by kernel_rfl) (by kernel_rfl) (by kernel_rfl) (fun _ _ _ h => h) (Or.inl ⟨by rfl, ?_⟩) (by assumption) ?_
  rotate_left
  · intro w hSw
    try dsimp only at hSw
    go_simp
    try with_reducible rfl
  simp only [Act.put, List.setIfInBounds_toArray, List.set_cons_zero, List.set_cons_succ]
  refine wpAnyH_takeD (i := 5) (v := ?_) (some 36) rfl (by rfl) (by kernel_rfl) (by kernel_rfl) (by kernel_rfl) (fun _ _ _ h => h) (Or.inl ⟨by rfl, ?_⟩) (by assumption) ?_
  rotate_left
  · intro w hSw
    try dsimp only at hSw
    go_simp
    try with_reducible rfl
  simp only [Act.put, List.setIfInBounds_toArray, List.set_cons_zero, List.set_cons_succ]
  refine wpAnyH_takeD (i := 6) (v := ?_) (some 37) rfl (by rfl) (by kernel_rfl) (by kernel_rfl) (by kernel_rfl) (fun _ _ _ h => h) (Or.inl ⟨by rfl, ?_⟩) (by assumption) ?_
  rotate_left
  · intro w hSw
    try dsimp only at hSw
    go_simp
    try with_reducible rfl
  simp only [Act.put, List.setIfInBounds_toArray, List.set_cons_zero, List.set_cons_succ]
  refine wpAnyH_takeD (i := 7) (v := ?_) (some 38) rfl (by rfl) (by kernel_rfl) (by kernel_rfl) (by kernel_rfl) (fun _ _ _ h => h) (Or.inl ⟨by rfl, ?_⟩) (by assumption) ?_
  rotate_left
  · intro w hSw
    try dsimp only at hSw
    go_simp
    try with_reducible rfl
  simp only [Act.put, List.setIfInBounds_toArray, List.set_cons_zero, List.set_cons_succ]
  refine wpAnyH_takeD (i := 8) (v := ?_) (some 39) rfl (by rfl) (by kernel_rfl) (by kernel_rfl) (by kernel_rfl) (fun _ _ _ h => h) (Or.inl ⟨by rfl, ?_⟩) (by assumption) ?_
  rotate_left
  · intro w hSw
    try dsimp only at hSw
    go_simp
    try with_reducible rfl
  simp only [Act.put, List.setIfInBounds_toArray, List.set_cons_zero, List.set_cons_succ]
  refine wpAnyH_takeD (i := 9) (v := ?_) (some 40) rfl (by rfl) (by kernel_rfl) (by kernel_rfl) (by kernel_rfl) (fun _ _ _ h => h) (Or.inl ⟨by rfl, ?_⟩) (by assumption) ?_
  rotate_left
  · intro w hSw
    try dsimp only at hSw
    go_simp
    try with_reducible rfl
  simp only [Act.put, List.setIfInBounds_toArray, List.set_cons_zero, List.set_cons_succ]
  refine wpAnyH_takeD (i := 10) (v := ?_) (some 41) rfl (by rfl) (by kernel_rfl) (by kernel_rfl) (by kernel_rfl) (fun _ _ _ h => h) (Or.inl ⟨by rfl, ?_⟩) (by assumption) ?_
  rotate_left
  · intro w hSw
    try dsimp only at hSw
    go_simp
    try with_reducible rfl
  simp only [Act.put, List.setIfInBounds_toArray, List.set_cons_zero, List.set_cons_succ]
  refine wpAnyH_takeD (i := 11) (v := ?_) (some 42) rfl (by rfl) (by kernel_rfl) (by kernel_rfl) (by kernel_rfl) (fun _ _ _ h => h) (Or.inl ⟨by rfl, ?_⟩) (by assumption) ?_
  rotate_left
  · intro w hSw
    try dsimp only at hSw
    go_simp
    try with_reducible rfl
  simp only [Act.put, List.setIfInBounds_toArray, List.set_cons_zero, List.set_cons_succ]
  refine wpAnyH_takeD (i := 12) (v := ?_) (some 43) rfl (by rfl) (by kernel_rfl) (by kernel_rfl) (by kernel_rfl) (fun _ _ _ h => h) (Or.inl ⟨by rfl, ?_⟩) (by assumption) ?_
  rotate_left
  · intro w hSw
    try dsimp only at hSw
    go_simp
    try with_reducible rfl
  simp only [Act.put, List.setIfInBounds_toArray, List.set_cons_zero, List.set_cons_succ]
  refine wpAnyH_takeD (i := 13) (v := ?_) (some 44) rfl (by rfl) (by kernel_rfl) (by kernel_rfl) (by kernel_rfl) (fun _ _ _ h => h) (Or.inl ⟨by rfl, ?_⟩) (by assumption) ?_
  rotate_left
  · intro w hSw
    try dsimp only at hSw
    go_simp
    try with_reducible rfl
  simp only [Act.put, List.setIfInBounds_toArray, List.set_cons_zero, List.set_cons_succ]
  refine wpAnyH_takeD (i := 14) (v := ?_) (some 45) rfl (by rfl) (by kernel_rfl) (by kernel_rfl) (by kernel_rfl) (fun _ _ _ h => h) (Or.inl ⟨by rfl, ?_⟩) (by assumption) ?_
  rotate_left
  · intro w hSw
    try dsimp only at hSw
    go_simp
    try with_reducible rfl
  simp only [Act.put, List.setIfInBounds_toArray, List.set_cons_zero, List.set_cons_succ]
  refine wpAnyH_takeD (i := 15) (v := ?_) (some 46) rfl (by rfl) (by kernel_rfl) (by kernel_rfl) (by kernel_rfl) (fun _ _ _ h => h) (Or.inl ⟨by rfl, ?_⟩) (by assumption) ?_
  rotate_left
  · intro w hSw
    try dsimp only at hSw
    go_simp
    try with_reducible rfl
  simp only [Act.put, List.setIfInBounds_toArray, List.set_cons_zero, List.set_cons_succ]
  refine wpAnyH_takeD (i := 16) (v := ?_) (some 47) rfl (by rfl) (by kernel_rfl) (by kernel_rfl) (by kernel_rfl) (fun _ _ _ h => h) (Or.inl ⟨by rfl, ?_⟩) (by assumption) ?_
  rotate_left
  · intro w hSw
    try dsimp only at hSw
    go_simp
    try with_reducible rfl
  simp only [Act.put, List.setIfInBounds_toArray, List.set_cons_zero, List.set_cons_succ]
  refine wpAnyH_takeD (i := 17) (v := ?_) (some 4) rfl (by rfl) (by kernel_rfl) (by kernel_rfl) (by kernel_rfl) (fun _ _ _ h => h) (Or.inl ⟨by rfl, ?_⟩) (by assumption) ?_
  rotate_left
  · intro w hSw
    try dsimp only at hSw
    go_simp
    try with_reducible rfl
  simp only [Act.put, List.setIfInBounds_toArray, List.set_cons_zero, List.set_cons_succ]
  refine wpAnyH_takeD (i := 18) (v := ?_) (some 5) rfl (by rfl) (by kernel_rfl) (by kernel_rfl) (by kernel_rfl) (fun _ _ _ h => h) (Or.inl ⟨by rfl, ?_⟩) (by assumption) ?_
  rotate_left
  · intro w hSw
    try dsimp only at hSw
    go_simp
    try with_reducible rfl
  simp only [Act.put, List.setIfInBounds_toArray, List.set_cons_zero, List.set_cons_succ]
  obtain ⟨k0, f0⟩ := H6.out.cell 0 rfl 0 (v := .int .i64 0) rfl
  obtain ⟨k1, f1⟩ := H6.out.cell 0 rfl 1 (v := .slice none 0 0) rfl
  obtain ⟨k2, f2⟩ := H6.out.cell 0 rfl 2 (v := .int .i64 0) rfl
  obtain ⟨k3, f3⟩ := H6.out.cell 0 rfl 3 (v := .int .u32 0) rfl
  obtain ⟨k4, f4⟩ := H6.out.cell 0 rfl 4 (v := .slice none 0 0) rfl
  obtain ⟨k5, f5⟩ := H6.out.cell 0 rfl 5 (v := .slice none 0 0) rfl
  have h7 := (((((H6.out.set 0 rfl 0 (.int .i64 q)).set 0 rfl 1 (.slice none 0 0)).set 0 rfl 2 (.int .i64 m)).set 0 rfl 3 (.int .u32 4294967295)).set 0 rfl 4 (.slice none 0 0)).set 0 rfl 5 (.slice none 0 0)
  generalize hW7 : (((((W6.setCell ⟨B, 0, none⟩ (.int .i64 q)).setCell ⟨B, 1, none⟩ (.slice none 0 0)).setCell ⟨B, 2, none⟩ (.int .i64 m)).setCell ⟨B, 3, none⟩ (.int .u32 4294967295)).setCell ⟨B, 4, none⟩ (.slice none 0 0)).setCell ⟨B, 5, none⟩ (.slice none 0 0) = W7 at h7
  have h7 : Sep No w W7 [cellsAt B (rsV q m 4294967295) 35, stR b m 4294967295 (Slb.empty q) ⟨m, 4294967295, []⟩, cpR cb b, cellsAt C (rsV q m 4294967295) 35] := h7
  have HZ := And.intro (h7.cell 3 rfl 0 (v := .int .i64 q) rfl).1 (And.intro (h7.cell 3 rfl 1 (v := .slice none 0 0) rfl).1 (And.intro (h7.cell 3 rfl 2 (v := .int .i64 m) rfl).1 (And.intro (h7.cell 3 rfl 3 (v := .int .u32 4294967295) rfl).1 (And.intro (h7.cell 3 rfl 4 (v := .slice none 0 0) rfl).1 (h7.cell 3 rfl 5 (v := .slice none 0 0) rfl).1))))
  have H7 := Lib.hid h7
  clear h7
  refine wpAnyH_ready (rs := [19]) (by kernel_rfl) (by simp) ?_
  refine AllReadyH.cons rfl (fun K hK => ?_) AllReadyH.nil
  go_simp
  try rw [hW7]
  refine hK.out _ _ HZ (fun _ => ?_)
  clear hK K k0 k1 k2 k3 k4 k5 f0 f1 f2 f3 f4 f5 hHeld
  have hHeld := HZ
  try simp only [Act.put, List.setIfInBounds_toArray, List.set_cons_zero, List.set_cons_succ]
  refine wpAnyH_takeD (i := 20) (v := ?_) (some 7) rfl (by rfl) (by kernel_rfl) (by kernel_rfl) (by kernel_rfl) (fun _ _ _ h => h) (Or.inl ⟨by rfl, ?_⟩) (by assumption) ?_
  rotate_left
  · intro w hSw
    try dsimp only at hSw
    go_simp
    try with_reducible rfl
  simp only [Act.put, List.setIfInBounds_toArray, List.set_cons_zero, List.set_cons_succ]
  refine wpAnyH_done (by kernel_rfl) ?_ _
  have z0 := (H7.out.cell 0 rfl 0 (v := .int .i64 q) rfl).1
  have z1 := (H7.out.cell 0 rfl 1 (v := .slice none 0 0) rfl).1
  have z2 := (H7.out.cell 0 rfl 2 (v := .int .i64 m) rfl).1
  have z3 := (H7.out.cell 0 rfl 3 (v := .int .u32 4294967295) rfl).1
  have z4 := (H7.out.cell 0 rfl 4 (v := .slice none 0 0) rfl).1
  have z5 := (H7.out.cell 0 rfl 5 (v := .slice none 0 0) rfl).1
  have H8 : Hid (Sep No w W7 [stR b m 4294967295 (Slb.empty q) ⟨m, 4294967295, []⟩, cpR cb b]) := H7.out.pick (fun i => i + 1) (fun i hi => by match i, hi with | 0, _ => rfl | 1, _ => rfl) (fun i j hi hj hij => by omega)
  clear H6 H7 hHeld HZ
  go_wp2_with fail
  refine bodyPost_ret (v := .tuple #[.pointer (some ⟨b, 0, none⟩), .pointer (some ⟨cb, 0, none⟩), .agg (rsV q m 4294967295), .bool true]) ?_ rfl ⟨b, cb, rfl, H8.out⟩
  simp [results, Tryz.results11, go_sem, z0, z1, z2, z3, z4, z5]
end Go.Proofs.YtmdnofojecncgaaGreatDoor

namespace Go.Proofs.YtmdnofojecncgaaGreatDoor
open Go

namespace Aw7
def t0 : HTbl := ⟨10, 4294967295, []⟩
def adr (S : Slb) : Int := (S.halloc (0 + 2)).1
def mkT (S : Slb) (T : HTbl) : HTbl := (T.open' (adr S)).2.2
def mkS (S : Slb) (T : HTbl) : Slb := (((S.halloc (0 + 2)).2.2.write (adr S) (T.open' (adr S)).1).2.write (adr S + 1) 0).2
theorem mk {S S' : Slb} {T T' : HTbl} {H H' : List Ent} {R R' : List Rc} {hd er : Int} (M : Made S T H R 0 hd er S' T' H' R') (h1 : (S.halloc (0 + 2)).2.1 = 0) (h2 : (T.free : Int) ≠ T.most) :
    er = 0 ∧ S' = mkS S T ∧ T' = mkT S T ∧ hd = (T.open' (adr S)).1 ∧ R' = R ++ [⟨(T.open' (adr S)).1, adr S, []⟩] := by
  cases M with
  | arg hn => omega
  | quota h0 hl e => rw [e] at h1; cases h1
  | full h0 hl a S1 H1 e ha A W hf => exact absurd hf h2
  | ok h0 hl a S1 H1 e ha A W hf hd S2 S3 ho d0 d1 w1 w2 =>
    unfold mkS mkT adr
    rw [e]
    dsimp only
    rw [ho]
    dsimp only
    rw [w1]
    dsimp only
    rw [w2]
    exact ⟨rfl, rfl, rfl, rfl, rfl⟩
def s0 : Slb := Slb.empty 640
def s1 := mkS s0 t0
def t1 := mkT s0 t0
def s2 := mkS s1 t1
def t2 := mkT s1 t1
def s3 := mkS s2 t2
def t3 := mkT s2 t2
theorem k0 : (s0.halloc (0 + 2)).2.1 = 0 := by kernel_rfl
theorem k1 : (s1.halloc (0 + 2)).2.1 = 0 := by kernel_rfl
theorem k2 : (s2.halloc (0 + 2)).2.1 = 0 := by kernel_rfl
theorem f0 : t0.free = 0 := by kernel_rfl
theorem f1 : t1.free = 1 ∧ t1.most = 10 := ⟨by kernel_rfl, by kernel_rfl⟩
theorem f2 : t2.free = 2 ∧ t2.most = 10 := ⟨by kernel_rfl, by kernel_rfl⟩
theorem a0 : adr s0 = 2 := by kernel_rfl
theorem a1 : adr s1 = 4 := by kernel_rfl
theorem a2 : adr s2 = 6 := by kernel_rfl
theorem h0 : (t0.open' (adr s0)).1 = 4294967297 := by kernel_rfl
theorem h1 : (t1.open' (adr s1)).1 = 4294967298 := by kernel_rfl
theorem h2 : (t2.open' (adr s2)).1 = 4294967299 := by kernel_rfl
def R3 : List Rc := [⟨4294967297, 2, []⟩, ⟨4294967298, 4, []⟩, ⟨4294967299, 6, []⟩]
def R4 : List Rc := [⟨4294967297, -1, []⟩, ⟨4294967298, 4, []⟩, ⟨4294967299, 6, []⟩]
def R5 : List Rc := [⟨4294967297, -1, []⟩, ⟨4294967298, 4, []⟩, ⟨4294967299, 2, []⟩]
def s4 : Slb := (s3.hfree 2).2
def s5 : Slb := (s4.hslide 6).2.2
theorem at3 : (t3.at' 4294967297).2 = 0 := by kernel_rfl
theorem tr4 : tried s4 = [4294967299, 4294967298] := by kernel_rfl
theorem sl4 : (s4.hslide 6).1 = 2 := by kernel_rfl
theorem tr5 : tried s5 = [4294967298, 4294967299] := by kernel_rfl
theorem sl5 : (s5.hslide 4).1 = 4 := by kernel_rfl
theorem sl5' : (s5.hslide 2).1 = 2 := by kernel_rfl

theorem rec3 {R : List Rc} {a b c : Rc} (e : R = [a, b, c]) {hh : Int} {j : Nat} {r : Rc} (L : Rec R hh j r) : (j = 0 ∧ r = a) ∨ (j = 1 ∧ r = b) ∨ (j = 2 ∧ r = c) := by
  have hj := L.hj
  subst e
  match j, hj with
  | 0, h => exact .inl ⟨rfl, by simpa using h.symm⟩
  | 1, h => exact .inr (.inl ⟨rfl, by simpa using h.symm⟩)
  | 2, h => exact .inr (.inr ⟨rfl, by simpa using h.symm⟩)
  | j + 3, h => simp at h

section
variable {S S' : Slb} {T T' : HTbl} {H H' : List Ent} {R R' : List Rc}
theorem drop {er : Int} (D : Drops s3 t3 H R3 4294967297 er S' T' H' R') : er = 0 ∧ S' = s4 ∧ R' = R4 := by
  cases D with
  | stale e => have := at3; rw [e] at this; cases this
  | ok j r L S2 T2 H2 e =>
    rcases rec3 rfl L with ⟨rfl, rfl⟩ | ⟨rfl, rfl⟩ | ⟨rfl, rfl⟩
    · refine ⟨rfl, ?_, rfl⟩
      unfold s4
      rw [e]
    · have := L.he; simp at this
    · have := L.he; simp at this
theorem rest4 : ¬ Rests s4 R4 4294967299 := by
  rintro ⟨j, r, L, e⟩
  rcases rec3 rfl L with ⟨rfl, rfl⟩ | ⟨rfl, rfl⟩ | ⟨rfl, rfl⟩
  · have := L.he; simp at this
  · have := L.he; simp at this
  · have := sl4
    dsimp only at e
    omega
theorem step4 {is : Bool} (D : Stepped s4 T H R4 is S' T' H' R') : is = true ∧ S' = s5 ∧ R' = R5 := by
  cases D with
  | done all I => exact absurd (all _ (by rw [tr4]; simp)) rest4
  | gone pre post x e rest D =>
    rw [tr4] at e
    cases pre with
    | cons y pre =>
      simp only [List.cons_append, List.cons.injEq] at e
      exact absurd (rest y (by simp)) (e.1 ▸ rest4)
    | nil =>
      simp only [List.nil_append, List.cons.injEq] at e
      obtain ⟨rfl, -⟩ := e
      refine ⟨rfl, ?_⟩
      generalize hb : true = b at D
      cases D with
      | ok j r L tq S2 T2 H2 e =>
        rcases rec3 rfl L with ⟨rfl, rfl⟩ | ⟨rfl, rfl⟩ | ⟨rfl, rfl⟩
        · have := L.he; simp at this
        · have := L.he; simp at this
        · have h1 := sl4
          dsimp only at e
          rw [e] at h1
          dsimp only at h1
          refine ⟨?_, ?_⟩
          · unfold s5; rw [e]
          · rw [h1]; rfl
theorem step5 {is : Bool} (D : Stepped s5 T H R5 is S' T' H' R') : is = false := by
  cases D with
  | done all I => rfl
  | gone pre post x e rest D =>
    exfalso
    generalize hb : true = b at D
    cases D with
    | ok j r L tq S2 T2 H2 e =>
      rcases rec3 rfl L with ⟨rfl, rfl⟩ | ⟨rfl, rfl⟩ | ⟨rfl, rfl⟩
      · have := L.h0; simp at this
      · have h1 := sl5
        dsimp only at e hb
        rw [e] at h1
        dsimp only at h1
        rw [h1] at hb
        simp at hb
      · have h1 := sl5'
        dsimp only at e hb
        rw [e] at h1
        dsimp only at h1
        rw [h1] at hb
        simp at hb
end

theorem all {g1 g2 g3 e1 e2 e3 : Int} {S1 S2 S3 : Slb} {T1 T2 T3 : HTbl} {H1 H2 H3 : List Ent} {R1 R2 Q3 : List Rc} (M1 : Made (Slb.empty 640) ⟨10, 4294967295, []⟩ [] [] 0 g1 e1 S1 T1 H1 R1) (M2 : Made S1 T1 H1 R1 0 g2 e2 S2 T2 H2 R2) (M3 : Made S2 T2 H2 R2 0 g3 e3 S3 T3 H3 Q3) :
    e1 = 0 ∧ Named T3 Q3 g1 ∧ ∀ {er : Int} {S4 T4 H4 R4}, Drops S3 T3 H3 Q3 g1 er S4 T4 H4 R4 → er = 0 ∧ ∀ {is : Bool} {S5 T5 H5 R5}, Stepped S4 T4 H4 R4 is S5 T5 H5 R5 → is = true ∧ ∀ {is' : Bool} {S6 T6 H6 R6}, Stepped S5 T5 H5 R5 is' S6 T6 H6 R6 → is' = false := by
  have hf0 : ((t0.free : Nat) : Int) ≠ t0.most := by rw [f0]; decide
  obtain ⟨rfl, rfl, rfl, rfl, rfl⟩ := mk (S := s0) (T := t0) M1 k0 hf0
  obtain ⟨rfl, rfl, rfl, rfl, rfl⟩ := mk (S := s1) (T := t1) M2 k1 (by rw [f1.1, f1.2]; decide)
  obtain ⟨rfl, rfl, rfl, rfl, rfl⟩ := mk (S := s2) (T := t2) M3 k2 (by rw [f2.1, f2.2]; decide)
  have hR : (([] ++ [⟨(t0.open' (adr s0)).1, adr s0, []⟩] ++ [⟨(t1.open' (adr s1)).1, adr s1, []⟩] : List Rc) ++ [⟨(t2.open' (adr s2)).1, adr s2, []⟩]) = R3 := by
    rw [h0, h1, h2, a0, a1, a2]
    rfl
  rw [hR]
  have hs3 : mkS s2 t2 = s3 := rfl
  have ht3 : mkT s2 t2 = t3 := rfl
  rw [hs3, ht3, h0]
  refine ⟨rfl, .inl ⟨0, _, rfl, rfl⟩, fun D => ?_⟩
  obtain ⟨rfl, rfl, rfl⟩ := drop D
  refine ⟨rfl, fun D => ?_⟩
  obtain ⟨rfl, rfl, rfl⟩ := step4 D
  exact ⟨rfl, fun D => step5 D⟩
end Aw7
end Go.Proofs.YtmdnofojecncgaaGreatDoor

namespace Go.Proofs.YtmdnofojecncgaaGreatDoor
open Go Go.RowKit

set_option maxRecDepth 100000 in
set_option maxHeartbeats 4000000 in
theorem awake07_call (w : World) (hT : Tab64 w) : Calls Tryz.prog 10 #[] w fun e w' => e = .returned (.bool true) ∧ Mod No w w' := by
  have HT := Lib.hid hT
  clear hT
  have hm := made07_call 640 10 (by omega) (by omega) (by omega) (by omega) w
  go_enter Tryz.func10, Tryz.ntmps10
  go_wp2_with fail
  refine hm.mono ?_
  rintro e w1 ⟨b, cb, rfl, h1⟩
  have h2 := h1.pushCells (rsV 640 10 4294967295) 35
  obtain ⟨C, hC⟩ : ∃ C, w1.heap.size = C := ⟨_, rfl⟩
  obtain ⟨W2, hW2⟩ : ∃ W, w1.alloc (.cells (rsV 640 10 4294967295) 35) = W := ⟨_, rfl⟩
  rw [hC, hW2] at h2
  have h2 : Sep No w W2 [stR b 10 4294967295 (Slb.empty 640) ⟨10, 4294967295, []⟩, cpR cb b, cellsAt C (rsV 640 10 4294967295) 35] := h2
  obtain ⟨j4, g4⟩ := h2.cell 2 rfl 4 (v := .slice none 0 0) rfl
  obtain ⟨j5, g5⟩ := h2.cell 2 rfl 5 (v := .slice none 0 0) rfl
  have h3 := (h2.set 2 rfl 4 (.slice none 0 0)).set 2 rfl 5 (.slice none 0 0)
  have h3 : Sep No w ((W2.setCell ⟨C, 4, none⟩ (.slice none 0 0)).setCell ⟨C, 5, none⟩ (.slice none 0 0)) [stR b 10 4294967295 (Slb.empty 640) ⟨10, 4294967295, []⟩, cpR cb b, cellsAt C (rsV 640 10 4294967295) 35] := h3
  generalize hW3 : ((W2.setCell ⟨C, 4, none⟩ (.slice none 0 0)).setCell ⟨C, 5, none⟩ (.slice none 0 0)) = W3 at h3
  have I0 := StInv.start (q := 640) (m := 10) (l := 4294967295) (by omega) (by omega) (by omega) (by omega) (by omega) (by omega)
  obtain ⟨a1, e1, S1, T1, H1, R1, M1⟩ := I0.made 0
  obtain ⟨a2, e2, S2, T2, H2, R2, M2⟩ := M1.inv.made 0
  obtain ⟨a3, e3, S3, T3, H3, R3, M3⟩ := M2.inv.made 0
  obtain ⟨rfl, hN, hall⟩ := Aw7.all M1 M2 M3
  obtain ⟨er, S4, T4, H4, R4, D⟩ := M3.inv.drops hN
  obtain ⟨rfl, hall⟩ := hall D
  have c1 := stmake_call h3 0 rfl (HT.out.mod h3.mod) M1
  have HM := Lib.hid (And.intro M1 (And.intro M2 (And.intro M3 (And.intro D @hall))))
  clear hm h1 h2 h3 I0 M1 M2 M3 hN D hall
  go_wp2_with fail
  try rw [hW3]
  refine c1.mono ?_
  rintro e w2 ⟨rfl, h⟩
  have h : Sep No w w2 [stR b 10 4294967295 S1 T1, cpR cb b, cellsAt C (rsV 640 10 4294967295) 35] := h
  have c2 := stmake_call h 0 rfl (HT.out.mod h.mod) HM.out.2.1
  clear c1 h j4 g4 j5 g5 hW2 hW3 hC
  go_wp2_with fail
  refine c2.mono ?_
  rintro e w3 ⟨rfl, h⟩
  have h : Sep No w w3 [stR b 10 4294967295 S2 T2, cpR cb b, cellsAt C (rsV 640 10 4294967295) 35] := h
  have c3 := stmake_call h 0 rfl (HT.out.mod h.mod) HM.out.2.2.1
  clear c2 h
  go_wp2_with fail
  refine c3.mono ?_
  rintro e w4 ⟨rfl, h⟩
  have h : Sep No w w4 [stR b 10 4294967295 S3 T3, cpR cb b, cellsAt C (rsV 640 10 4294967295) 35] := h
  have c4 := stdrop_call h 0 rfl HM.out.2.2.1.inv (hh := a1) ⟨HM.out.1.range.1, HM.out.1.range.2.1⟩ HM.out.2.2.2.1
  clear c3 h
  go_wp2_with fail
  refine c4.mono ?_
  rintro e w5 ⟨rfl, h⟩
  have h : Sep No w w5 [stR b 10 4294967295 S4 T4, cpR cb b, cellsAt C (rsV 640 10 4294967295) 35] := h
  have c5 := cstep_call h 0 1 rfl rfl HM.out.2.2.2.1.inv (HT.out.mod h.mod)
  clear c4 h
  go_wp2_with fail
  refine c5.mono ?_
  rintro e w6 ⟨is, S5, T5, H5, R5, ⟨rfl, D5⟩, h⟩
  have h : Sep No w w6 [stR b 10 4294967295 S5 T5, cpR cb b, cellsAt C (rsV 640 10 4294967295) 35] := h
  obtain ⟨rfl, hall⟩ := HM.out.2.2.2.2 D5
  have c6 := cstep_call h 0 1 rfl rfl D5.inv (HT.out.mod h.mod)
  have HA : Hid (∀ (is' : Bool) S6 T6 H6 R6, Stepped S5 T5 H5 R5 is' S6 T6 H6 R6 → is' = false) := fun _ _ _ _ _ d => hall d
  clear c5 h D5 hall
  go_wp2_with fail
  refine c6.mono ?_
  rintro e w7 ⟨is, S6, T6, H6, R6, ⟨rfl, D6⟩, h⟩
  have hf := HA.out _ _ _ _ _ D6
  subst hf
  have HMM := Lib.hid h.mod
  clear c6 h D6 HA HM
  go_wp2
  go_ret
  exact ⟨rfl, HMM.out⟩
end Go.Proofs.YtmdnofojecncgaaGreatDoor
