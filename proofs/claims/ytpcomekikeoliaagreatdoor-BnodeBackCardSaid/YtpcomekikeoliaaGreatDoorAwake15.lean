/- The laws' awake of package loftlaw15, walked. Condition: the table of math/bits holds what its initialiser lays. -/
import Derived.Test.YtpcomekikeoliaaGreatDoorBnodeA
import Derived.Test.YtpcomekikeoliaaGreatDoorAwake09
set_option linter.unusedVariables false
set_option linter.unusedSimpArgs false
set_option maxRecDepth 100000
namespace Go.Proofs.YtpcomekikeoliaaGreatDoor
open Go Go.RowKit

theorem infoHd : (Tryz.prog.info? 55).map (fun i => (i.zero, i.size, i.bytes)) = some (some (.int .u64 0), 1, 8) := by kernel_rfl
abbrev nd78 : Nd := ⟨[7], [8], [], 1⟩
abbrev nd0000 : Nd := ⟨[0, 0, 0, 0], [0, 0, 0, 0], [], 0⟩

set_option maxHeartbeats 4000000 in
theorem awake15_call (w : World) (hT : Tab64 w) : Calls Tryz.prog 16 #[] w fun e w' => e = .returned (.bool true) ∧ Mod No w w' := by
  have HT := Lib.hid hT
  clear hT
  go_enter Tryz.func16, Tryz.ntmps16
  go_wp2_with fail
  refine (stnew_call (Sep.nil w) 640 9 9 (by omega) (by omega) (by omega) (by omega) (by omega) (by omega)).mono ?_
  rintro e w1 ⟨b, rfl, h1⟩
  have h2 := (h1.pushCells #[.int .u64 7] 55).pushCells #[.int .u64 8] 55
  simp only [World.size_alloc] at h2
  obtain ⟨p, hp⟩ : ∃ x, w1.heap.size = x := ⟨_, rfl⟩
  obtain ⟨p1, hp1⟩ : ∃ x, p + 1 = x := ⟨_, rfl⟩
  rw [hp, hp1] at h2
  have h2 : Sep No w ((w1.alloc (.cells #[.int .u64 7] 55)).alloc (.cells #[.int .u64 8] 55)) [stR b 9 9 (Slb.empty 640) ⟨9, 9, []⟩, cellsAt p #[.int .u64 7] 55, cellsAt p1 #[.int .u64 8] 55] := h2
  obtain ⟨S1, T1, H1, a, M, hpg⟩ := StInv.first (q := 640) (m := 9) (la := 9) (n := ((12 : Nat) : Int)) (by omega) (by omega) (by omega) (by omega) (by omega) (by omega) (by omega) (by omega) (by decide)
  have c1 := bnmake_ok (ck := 1) (cv := 1) (cc := 0) (sk := some ⟨p, 0, none⟩) (sv := some ⟨p1, 0, none⟩) (sc := none) (x := nd78) (t := 2) (n6 := 12) h2 0 rfl (StInv.start (by omega) (by omega) (by omega) (by omega) (by omega) (by omega)) (HT.out.mod h2.mod)
    (fun wr S1 T1 hs => ⟨fun k v hk => by
      have : k = 0 ∧ v = 7 := by match k, hk with
        | 0, hk => exact ⟨rfl, by simpa using hk.symm⟩
        | k + 1, hk => simp at hk
      obtain ⟨rfl, rfl⟩ := this
      exact ⟨p, 0, rfl, (Sep.cell hs 1 rfl 0 (v := .int .u64 7) rfl).1⟩, fun k v hk => by
      have : k = 0 ∧ v = 8 := by match k, hk with
        | 0, hk => exact ⟨rfl, by simpa using hk.symm⟩
        | k + 1, hk => simp at hk
      obtain ⟨rfl, rfl⟩ := this
      exact ⟨p1, 0, rfl, (Sep.cell hs 2 rfl 0 (v := .int .u64 8) rfl).1⟩, HasR.nil _ _⟩)
    ⟨by intro k hk; simp at hk; omega, by intro k hk; simp at hk; omega, by intro k hk; simp at hk, by decide⟩ (by decide) (by decide) (by decide) rfl M
  clear h1 h2 M
  go_wp2_with fail
  refine c1.mono ?_
  rintro e w2 ⟨⟨S, a2⟩, ⟨rfl, I, -, -⟩, h3⟩
  dsimp only at I
  have h3 : Sep No w w2 [stR b 9 9 S T1, cellsAt p #[.int .u64 7] 55, cellsAt p1 #[.int .u64 8] 55] := h3
  have c2 := stlen_call h3 0 rfl I (hh := 4294967297) (by omega) (lenOk (j := 0) (r := ⟨4294967297, (a2 : Int), Nd.ws 2 nd78⟩) rfl (by simp))
  have c2 : Calls Tryz.prog 48 #[.pointer (some ⟨b, 0, none⟩), .int .u64 4294967297] w2 fun e w' => e = .returned (.tuple #[.int .i64 12, .int .i64 0]) ∧ w2 = w' := c2
  have c3 := stget_call h3 0 rfl I (hh := 4294967297) (k := 3) (by omega) (getOk (j := 0) (i := 3) (x := 8) (r := ⟨4294967297, (a2 : Int), Nd.ws 2 nd78⟩) rfl (by simp) rfl)
  have HI := Lib.hid (And.intro I h3)
  clear c1 I h3
  go_wp2_with fail
  refine c2.mono ?_
  rintro e w' ⟨rfl, rfl⟩
  clear c2
  go_wp2_with fail
  refine c3.mono ?_
  rintro e w' ⟨rfl, rfl⟩
  clear c3
  go_wp2_with fail
  obtain ⟨i0, hi0, hz0, hz1, hz2⟩ := info_parts infoHd
  have hmd : Mod No w2 w2.drew := (Mod.refl No w2).drew
  have HMD := Lib.hid hmd
  clear hmd
  refine wp_region_held_drew (S := fun _ => True) (by kernel_rfl) trivial (fun hHeld => ?_)
  refine wpAnyH_takeD (i := 0) (v := ?_) (some 36) rfl (by rfl) (by kernel_rfl) (by kernel_rfl) (by kernel_rfl) (fun _ _ _ h => h) (Or.inl ⟨by rfl, ?_⟩) (by assumption) ?_
  rotate_left
  · intro w hSw
    try dsimp only at hSw
    go_simp
    try with_reducible rfl
  simp only [Act.put, List.setIfInBounds_toArray, List.set_cons_zero, List.set_cons_succ]
  refine wpAnyH_ready (rs := [1, 2]) (by kernel_rfl) (by simp) ?_
  refine AllReadyH.cons rfl (fun K hK => ?_) (AllReadyH.cons rfl (fun K hK => ?_) AllReadyH.nil)
  · skip
    obtain ⟨wA, hrun, _, hgwA⟩ := run_make_full (P := Tryz.prog) (w2.drew) 0 50 55 i0 (.int .u64 0) 1 Tryz.underlying50 hi0 hz0 hz1 .i64 .i64 4 (by rw [hz2]; decide) (by decide) (Nat.zero_le _)
    obtain ⟨gA, hsz⟩ : ∃ x, (w2.drew).heap.size = x := ⟨_, rfl⟩
    have hr : (Instr.makeSlice 50 (.int .i64 4) (.int .i64 4)).run Tryz.prog (w2.drew) = .ok (.slice (some ⟨gA, 0, none⟩) 4 4) wA := by rw [← hsz]; exact hrun
    go_simp
    try rw [hr]
    try simp only [Result.andThen]
    refine hK.out _ _ trivial (fun _ => ?_)
    clear hK K hrun hr hsz
    try simp only [Act.put, List.setIfInBounds_toArray, List.set_cons_zero, List.set_cons_succ]
    have HMA := Lib.hid (HMD.out.trans' ((Mod.refl No w2.drew).grown hgwA (fun k e => by cases e)))
    clear hgwA
    refine wpAnyH_ready (rs := [2]) (by kernel_rfl) (by simp) ?_
    refine AllReadyH.cons rfl (fun K hK => ?_) AllReadyH.nil
    obtain ⟨wB, hrun, _, hgwB⟩ := run_make_full (P := Tryz.prog) (wA) 0 50 55 i0 (.int .u64 0) 1 Tryz.underlying50 hi0 hz0 hz1 .i64 .i64 4 (by rw [hz2]; decide) (by decide) (Nat.zero_le _)
    obtain ⟨gB, hsz⟩ : ∃ x, (wA).heap.size = x := ⟨_, rfl⟩
    have hr : (Instr.makeSlice 50 (.int .i64 4) (.int .i64 4)).run Tryz.prog (wA) = .ok (.slice (some ⟨gB, 0, none⟩) 4 4) wB := by rw [← hsz]; exact hrun
    go_simp
    try rw [hr]
    try simp only [Result.andThen]
    refine hK.out _ _ trivial (fun _ => ?_)
    clear hK K hrun hr hsz
    try simp only [Act.put, List.setIfInBounds_toArray, List.set_cons_zero, List.set_cons_succ]
    have HMB := Lib.hid (HMA.out.trans' ((Mod.refl No wA).grown hgwB (fun k e => by cases e)))
    clear hgwB HMA
    refine wpAnyH_takeD (i := 3) (v := ?_) (some 39) rfl (by rfl) (by kernel_rfl) (by kernel_rfl) (by kernel_rfl) (fun _ _ _ h => h) (Or.inl ⟨by rfl, ?_⟩) (by assumption) ?_
    rotate_left
    · intro w hSw
      try dsimp only at hSw
      go_simp
      try with_reducible rfl
    simp only [Act.put, List.setIfInBounds_toArray, List.set_cons_zero, List.set_cons_succ]
    have hca := fun sk sv => bnmake_arg (sk := sk) (sv := sv) (sc := none) (ck := 4) (cv := 4) (cc := 0) (x := nd0000) (t := 2) (HI.out.2.more HMB.out) 0 rfl HI.out.1 (HasR.nil _ _) (by decide) (by decide) (by decide)
    refine wpAnyH_ready (rs := [4]) (by kernel_rfl) (by simp) ?_
    refine AllReadyH.cons rfl (fun K hK => ?_) AllReadyH.nil
    go_simp
    refine (hca _ _).mono ?_
    rintro e w4 ⟨rfl, hm4⟩
    have HM4 := Lib.hid ((HI.out.2.mod.trans' HMB.out).trans' hm4)
    clear hca hm4
    refine hK.out _ _ trivial (fun _ => ?_)
    clear hK K
    try simp only [Act.put, List.setIfInBounds_toArray, List.set_cons_zero, List.set_cons_succ]
    refine wpAnyH_takeD (i := 5) (v := ?_) (some 35) rfl (by rfl) (by kernel_rfl) (by kernel_rfl) (by kernel_rfl) (fun _ _ _ h => h) (Or.inl ⟨by rfl, ?_⟩) (by assumption) ?_
    rotate_left
    · intro w hSw
      try dsimp only at hSw
      go_simp
      try with_reducible rfl
    simp only [Act.put, List.setIfInBounds_toArray, List.set_cons_zero, List.set_cons_succ]
    refine wpAnyH_takeD (i := 6) (v := ?_) (some 41) rfl (by rfl) (by kernel_rfl) (by kernel_rfl) (by kernel_rfl) (fun _ _ _ h => h) (Or.inl ⟨by rfl, ?_⟩) (by assumption) ?_
    rotate_left
    · intro w hSw
      try dsimp only at hSw
      go_simp
      try with_reducible rfl
    simp only [Act.put, List.setIfInBounds_toArray, List.set_cons_zero, List.set_cons_succ]
    refine wpAnyH_takeD (i := 7) (v := ?_) (some 42) rfl (by rfl) (by kernel_rfl) (by kernel_rfl) (by kernel_rfl) (fun _ _ _ h => h) (Or.inl ⟨by rfl, ?_⟩) (by assumption) ?_
    rotate_left
    · intro w hSw
      try dsimp only at hSw
      go_simp
      try with_reducible rfl
    simp only [Act.put, List.setIfInBounds_toArray, List.set_cons_zero, List.set_cons_succ]
    refine wpAnyH_takeD (i := 8) (v := ?_) (some 9) rfl (by rfl) (by kernel_rfl) (by kernel_rfl) (by kernel_rfl) (fun _ _ _ h => h) (Or.inl ⟨by rfl, ?_⟩) (by assumption) ?_
    rotate_left
    · intro w hSw
      try dsimp only at hSw
      go_simp
      try with_reducible rfl
    simp only [Act.put, List.setIfInBounds_toArray, List.set_cons_zero, List.set_cons_succ]
    refine wpAnyH_takeD (i := 9) (v := ?_) (some 10) rfl (by rfl) (by kernel_rfl) (by kernel_rfl) (by kernel_rfl) (fun _ _ _ h => h) (Or.inl ⟨by rfl, ?_⟩) (by assumption) ?_
    rotate_left
    · intro w hSw
      try dsimp only at hSw
      go_simp
      try with_reducible rfl
    simp only [Act.put, List.setIfInBounds_toArray, List.set_cons_zero, List.set_cons_succ]
    refine wpAnyH_done (by kernel_rfl) ?_ _
    clear hHeld
    have c7 := bnwords_call 2 w4
    have c7 : Calls Tryz.prog 50 #[.int .i64 2] w4 fun e w' => e = .returned (.int .i64 12) ∧ w4 = w' := c7
    go_wp2_with fail
    refine c7.mono ?_
    rintro e w' ⟨rfl, rfl⟩
    clear c7
    go_wp2_with fail
    go_ret
    exact ⟨rfl, HM4.out⟩
  · skip
    obtain ⟨wA, hrun, _, hgwA⟩ := run_make_full (P := Tryz.prog) (w2.drew) 0 50 55 i0 (.int .u64 0) 1 Tryz.underlying50 hi0 hz0 hz1 .i64 .i64 4 (by rw [hz2]; decide) (by decide) (Nat.zero_le _)
    obtain ⟨gA, hsz⟩ : ∃ x, (w2.drew).heap.size = x := ⟨_, rfl⟩
    have hr : (Instr.makeSlice 50 (.int .i64 4) (.int .i64 4)).run Tryz.prog (w2.drew) = .ok (.slice (some ⟨gA, 0, none⟩) 4 4) wA := by rw [← hsz]; exact hrun
    go_simp
    try rw [hr]
    try simp only [Result.andThen]
    refine hK.out _ _ trivial (fun _ => ?_)
    clear hK K hrun hr hsz
    try simp only [Act.put, List.setIfInBounds_toArray, List.set_cons_zero, List.set_cons_succ]
    have HMA := Lib.hid (HMD.out.trans' ((Mod.refl No w2.drew).grown hgwA (fun k e => by cases e)))
    clear hgwA
    refine wpAnyH_ready (rs := [1]) (by kernel_rfl) (by simp) ?_
    refine AllReadyH.cons rfl (fun K hK => ?_) AllReadyH.nil
    obtain ⟨wB, hrun, _, hgwB⟩ := run_make_full (P := Tryz.prog) (wA) 0 50 55 i0 (.int .u64 0) 1 Tryz.underlying50 hi0 hz0 hz1 .i64 .i64 4 (by rw [hz2]; decide) (by decide) (Nat.zero_le _)
    obtain ⟨gB, hsz⟩ : ∃ x, (wA).heap.size = x := ⟨_, rfl⟩
    have hr : (Instr.makeSlice 50 (.int .i64 4) (.int .i64 4)).run Tryz.prog (wA) = .ok (.slice (some ⟨gB, 0, none⟩) 4 4) wB := by rw [← hsz]; exact hrun
    go_simp
    try rw [hr]
    try simp only [Result.andThen]
    refine hK.out _ _ trivial (fun _ => ?_)
    clear hK K hrun hr hsz
    try simp only [Act.put, List.setIfInBounds_toArray, List.set_cons_zero, List.set_cons_succ]
    have HMB := Lib.hid (HMA.out.trans' ((Mod.refl No wA).grown hgwB (fun k e => by cases e)))
    clear hgwB HMA
    refine wpAnyH_takeD (i := 3) (v := ?_) (some 39) rfl (by rfl) (by kernel_rfl) (by kernel_rfl) (by kernel_rfl) (fun _ _ _ h => h) (Or.inl ⟨by rfl, ?_⟩) (by assumption) ?_
    rotate_left
    · intro w hSw
      try dsimp only at hSw
      go_simp
      try with_reducible rfl
    simp only [Act.put, List.setIfInBounds_toArray, List.set_cons_zero, List.set_cons_succ]
    have hca := fun sk sv => bnmake_arg (sk := sk) (sv := sv) (sc := none) (ck := 4) (cv := 4) (cc := 0) (x := nd0000) (t := 2) (HI.out.2.more HMB.out) 0 rfl HI.out.1 (HasR.nil _ _) (by decide) (by decide) (by decide)
    refine wpAnyH_ready (rs := [4]) (by kernel_rfl) (by simp) ?_
    refine AllReadyH.cons rfl (fun K hK => ?_) AllReadyH.nil
    go_simp
    refine (hca _ _).mono ?_
    rintro e w4 ⟨rfl, hm4⟩
    have HM4 := Lib.hid ((HI.out.2.mod.trans' HMB.out).trans' hm4)
    clear hca hm4
    refine hK.out _ _ trivial (fun _ => ?_)
    clear hK K
    try simp only [Act.put, List.setIfInBounds_toArray, List.set_cons_zero, List.set_cons_succ]
    refine wpAnyH_takeD (i := 5) (v := ?_) (some 35) rfl (by rfl) (by kernel_rfl) (by kernel_rfl) (by kernel_rfl) (fun _ _ _ h => h) (Or.inl ⟨by rfl, ?_⟩) (by assumption) ?_
    rotate_left
    · intro w hSw
      try dsimp only at hSw
      go_simp
      try with_reducible rfl
    simp only [Act.put, List.setIfInBounds_toArray, List.set_cons_zero, List.set_cons_succ]
    refine wpAnyH_takeD (i := 6) (v := ?_) (some 41) rfl (by rfl) (by kernel_rfl) (by kernel_rfl) (by kernel_rfl) (fun _ _ _ h => h) (Or.inl ⟨by rfl, ?_⟩) (by assumption) ?_
    rotate_left
    · intro w hSw
      try dsimp only at hSw
      go_simp
      try with_reducible rfl
    simp only [Act.put, List.setIfInBounds_toArray, List.set_cons_zero, List.set_cons_succ]
    refine wpAnyH_takeD (i := 7) (v := ?_) (some 42) rfl (by rfl) (by kernel_rfl) (by kernel_rfl) (by kernel_rfl) (fun _ _ _ h => h) (Or.inl ⟨by rfl, ?_⟩) (by assumption) ?_
    rotate_left
    · intro w hSw
      try dsimp only at hSw
      go_simp
      try with_reducible rfl
    simp only [Act.put, List.setIfInBounds_toArray, List.set_cons_zero, List.set_cons_succ]
    refine wpAnyH_takeD (i := 8) (v := ?_) (some 9) rfl (by rfl) (by kernel_rfl) (by kernel_rfl) (by kernel_rfl) (fun _ _ _ h => h) (Or.inl ⟨by rfl, ?_⟩) (by assumption) ?_
    rotate_left
    · intro w hSw
      try dsimp only at hSw
      go_simp
      try with_reducible rfl
    simp only [Act.put, List.setIfInBounds_toArray, List.set_cons_zero, List.set_cons_succ]
    refine wpAnyH_takeD (i := 9) (v := ?_) (some 10) rfl (by rfl) (by kernel_rfl) (by kernel_rfl) (by kernel_rfl) (fun _ _ _ h => h) (Or.inl ⟨by rfl, ?_⟩) (by assumption) ?_
    rotate_left
    · intro w hSw
      try dsimp only at hSw
      go_simp
      try with_reducible rfl
    simp only [Act.put, List.setIfInBounds_toArray, List.set_cons_zero, List.set_cons_succ]
    refine wpAnyH_done (by kernel_rfl) ?_ _
    clear hHeld
    have c7 := bnwords_call 2 w4
    have c7 : Calls Tryz.prog 50 #[.int .i64 2] w4 fun e w' => e = .returned (.int .i64 12) ∧ w4 = w' := c7
    go_wp2_with fail
    refine c7.mono ?_
    rintro e w' ⟨rfl, rfl⟩
    clear c7
    go_wp2_with fail
    go_ret
    exact ⟨rfl, HM4.out⟩
end Go.Proofs.YtpcomekikeoliaaGreatDoor
