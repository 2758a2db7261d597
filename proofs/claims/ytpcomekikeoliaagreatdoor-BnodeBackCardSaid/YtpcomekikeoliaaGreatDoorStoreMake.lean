/- Package store, walked: Make. Conditions: the store's records are as said; lengths are 64-bit ints. -/
import Derived.Test.YtpcomekikeoliaaGreatDoorStoreWalk
import Derived.Defers
import Derived.StillTailTactics
set_option linter.unusedVariables false
set_option linter.unusedSimpArgs false
set_option maxRecDepth 100000
namespace Go.Proofs.YtpcomekikeoliaaGreatDoor
open Go Go.RowKit

variable {F F0 : Nat → Prop} {w0 w : World} {Ps : List Res}

section
variable {b s hp t : Nat} {m la : Int} {S S' : Slb} {T T' : HTbl} {H H' : List Ent} {R R' : List Rc}

theorem make_boxes (h : Sep F w0 w [stAt b m la s hp t, slabR s S, hpAt hp s, tabR t T]) (k : Int) :
    Sep F w0 ((w.alloc (.cells #[.pointer (some ⟨b, 0, none⟩)] 46)).alloc (.cells #[.int .i64 k] 39)) [stAt b m la s hp t, slabR s S, hpAt hp s, tabR t T, cellsAt w.heap.size #[.pointer (some ⟨b, 0, none⟩)] 46, cellsAt (w.heap.size + 1) #[.int .i64 k] 39] := by
  have := (h.pushCells #[.pointer (some ⟨b, 0, none⟩)] 46).pushCells #[.int .i64 k] 39
  simpa using this

theorem door0 {P : Program} {fn : Func} {tmps : Array Value} {Q : Ending → World → Prop} {v : Value} {w : World} (h1 : (results fn tmps).run P w = .ok v w) (h2 : Q (.returned v) w) : bodyPostD P fn Q Exit.ret { tmps := tmps, defers := [] } w :=
  (show Leaves P fn tmps Q [] .returning w from ⟨v, h1, h2⟩)

theorem make_arg (h : Sep F w w [stAt b m la s hp t, slabR s S, hpAt hp s, tabR t T]) {n : Int} (hn : n < 0 ∨ 3998 < n) :
    Calls Tryz.prog 53 #[.pointer (some ⟨b, 0, none⟩), .int .i64 n] w fun e w' => e = .returned (.tuple #[.int .u64 0, .int .i64 2]) ∧ Sep F w w' [stAt b m la s hp t, slabR s S, hpAt hp s, tabR t T] := by
  have hno := stnone_call (make_boxes h 0) 0 rfl
  have HB := Lib.hid (make_boxes h 2)
  clear h
  have hd : decide (n < 0) = true ∨ decide (n < 0) = false ∧ decide (3998 < n) = true := by
    rcases hn with hn | hn
    · exact .inl (ltT hn)
    · exact .inr ⟨ltF (by omega), ltT hn⟩
  clear hn
  go_enter_defers Tryz.func53, Tryz.ntmps53
  go_wp2_with fail
  refine hno.mono ?_
  rintro e w' ⟨rfl, rfl⟩
  clear hno
  rcases hd with d1 | ⟨d1, d2⟩
  · go_wp2_with fail
    refine door0 (v := .tuple #[.int .u64 0, .int .i64 2]) ?_ ⟨rfl, Sep.left (Ps := [_, _, _, _]) HB.out⟩
    simp [results, Tryz.f53, go_sem]
  · go_wp2_with fail
    refine door0 (v := .tuple #[.int .u64 0, .int .i64 2]) ?_ ⟨rfl, Sep.left (Ps := [_, _, _, _]) HB.out⟩
    simp [results, Tryz.f53, go_sem]

theorem make_quota (h : Sep F w w [stAt b m la s hp t, slabR s S, hpAt hp s, tabR t T]) (hT : Tab64 w) {n : Int} (h0 : 0 ≤ n) (h1 : n ≤ 3998) (e : S.halloc (n + 2) = (0, 3, S)) :
    Calls Tryz.prog 53 #[.pointer (some ⟨b, 0, none⟩), .int .i64 n] w fun e w' => e = .returned (.tuple #[.int .u64 0, .int .i64 3]) ∧ Sep F w w' [stAt b m la s hp t, slabR s S, hpAt hp s, tabR t T] := by
  have hB := make_boxes h 0
  have hT := hT.mod (((Mod.refl _ w).alloc (.cells #[.pointer (some ⟨b, 0, none⟩)] 46)).alloc (.cells #[.int .i64 0] 39))
  obtain ⟨W, hW⟩ : ∃ W, (w.alloc (.cells #[.pointer (some ⟨b, 0, none⟩)] 46)).alloc (.cells #[.int .i64 0] 39) = W := ⟨_, rfl⟩
  obtain ⟨bs, hbs⟩ : ∃ x, w.heap.size = x := ⟨_, rfl⟩
  rw [hW, hbs] at hB
  rw [hW] at hT
  have hno := stnone_call hB 0 rfl
  have hal := hB.hAlloc 2 1 (by omega) rfl rfl hT (n + 2) e
  have k2 := (hB.cell 4 rfl 0 (v := .pointer (some ⟨b, 0, none⟩)) rfl).1
  have k3 := (hB.cell 0 rfl 3 (v := .pointer (some ⟨hp, 0, none⟩)) rfl).1
  have d1 : decide (n < 0) = false := ltF h0
  have d2 : decide (3998 < n) = false := ltF h1
  have ew : IntKind.i64.wrap (n + 2) = n + 2 := by rw [IntKind.wrap_i64]; omega
  clear h hB hT e
  go_enter_defers Tryz.func53, Tryz.ntmps53
  go_wp2_with fail
  refine hno.mono ?_
  rintro e w' ⟨rfl, rfl⟩
  clear hno hW hbs
  go_wp2_with fail
  refine hal.mono ?_
  rintro e w1 ⟨rfl, h2⟩
  have h2 : Sep F w w1 [stAt b m la s hp t, slabR s S, hpAt hp s, tabR t T, cellsAt bs #[.pointer (some ⟨b, 0, none⟩)] 46, cellsAt (bs + 1) #[.int .i64 0] 39] := h2
  have h3 : Sep F w (w1.alloc (.cells #[.int .i64 0] 3)) [stAt b m la s hp t, slabR s S, hpAt hp s, tabR t T, cellsAt bs #[.pointer (some ⟨b, 0, none⟩)] 46, cellsAt (bs + 1) #[.int .i64 0] 39, cellsAt w1.heap.size #[.int .i64 0] 3] := h2.pushCells _ _
  obtain ⟨ba, hba⟩ : ∃ x, w1.heap.size = x := ⟨_, rfl⟩
  obtain ⟨W1, hW1⟩ : ∃ x, w1.alloc (.cells #[.int .i64 0] 3) = x := ⟨_, rfl⟩
  rw [hW1, hba] at h3
  obtain ⟨k6, f6⟩ := h3.cell 6 rfl 0 (v := .int .i64 0) rfl
  have hA : Sep F w (W1.setCell ⟨ba, 0, none⟩ (.int .i64 0)) [stAt b m la s hp t, slabR s S, hpAt hp s, tabR t T, cellsAt bs #[.pointer (some ⟨b, 0, none⟩)] 46, cellsAt (bs + 1) #[.int .i64 0] 39, cellsAt ba #[.int .i64 0] 3] := h3.set 6 rfl 0 (.int .i64 0)
  obtain ⟨WA, hWA⟩ : ∃ x, W1.setCell ⟨ba, 0, none⟩ (.int .i64 0) = x := ⟨_, rfl⟩
  rw [hWA] at hA
  obtain ⟨k5, f5⟩ := hA.cell 5 rfl 0 (v := .int .i64 0) rfl
  have h4 : Sep F w (WA.setCell ⟨bs + 1, 0, none⟩ (.int .i64 3)) [stAt b m la s hp t, slabR s S, hpAt hp s, tabR t T, cellsAt bs #[.pointer (some ⟨b, 0, none⟩)] 46, cellsAt (bs + 1) #[.int .i64 3] 39, cellsAt ba #[.int .i64 0] 3] := hA.set 5 rfl 0 (.int .i64 3)
  obtain ⟨W2, hW2⟩ : ∃ x, WA.setCell ⟨bs + 1, 0, none⟩ (.int .i64 3) = x := ⟨_, rfl⟩
  rw [hW2] at h4
  obtain ⟨j5, g5⟩ := h4.cell 5 rfl 0 (v := .int .i64 3) rfl
  have H4 := Lib.hid h4
  clear hal h2 h3 h4
  go_wp2_with fail
  go_region
  go_wp2_with fail
  have hq : (W2.setCell ⟨bs + 1, 0, none⟩ (.int .i64 3)).drew.cell? ⟨bs + 1, 0, none⟩ = some (.int .i64 3) := ((H4.out.set 5 rfl 0 (.int .i64 3)).drew.cell 5 rfl 0 rfl).1
  refine door0 (v := .tuple #[.int .u64 0, .int .i64 3]) ?_ ⟨rfl, Sep.left (Ps := [_, _, _, _]) (H4.out.set 5 rfl 0 (.int .i64 3)).drew⟩
  simp [results, Tryz.f53, go_sem, hq]

/-- The deferred closure: it frees the block again if there is an error. -/
theorem mk1_none (p2 p6 : Value) (W : World) (be : Nat) (k : W.cell? ⟨be, 0, none⟩ = some (.int .i64 0)) :
    CallsD Tryz.prog 97 #[.pointer (some ⟨be, 0, none⟩), p2, p6] .returning W fun e u' w' => u' = .returning ∧ (e = .returned (.tuple #[]) ∧ w' = W) := by
  go_enter_d Tryz.func97, Tryz.ntmps97
  go_wp2
  go_end0
  exact ⟨rfl, rfl⟩
theorem mk1_free {W : World} {bs ba : Nat} {a er : Int} (h : Sep F w W [stAt b m la s hp t, slabR s S, hpAt hp s, tabR t T, cellsAt bs #[.pointer (some ⟨b, 0, none⟩)] 46, cellsAt (bs + 1) #[.int .i64 er] 39, cellsAt ba #[.int .i64 a] 3]) (he : er ≠ 0) (a0 : 0 ≤ a) (a1 : a ≤ 67108864) (e : S.hfree a = (0, S')) :
    CallsD Tryz.prog 97 #[.pointer (some ⟨bs + 1, 0, none⟩), .pointer (some ⟨bs, 0, none⟩), .pointer (some ⟨ba, 0, none⟩)] .returning W fun e u' w' => u' = .returning ∧ (e = .returned (.tuple #[]) ∧ Sep F w w' [stAt b m la s hp t, slabR s S', hpAt hp s, tabR t T, cellsAt bs #[.pointer (some ⟨b, 0, none⟩)] 46, cellsAt (bs + 1) #[.int .i64 er] 39, cellsAt ba #[.int .i64 a] 3]) := by
  have k5 := (h.cell 5 rfl 0 (v := .int .i64 er) rfl).1
  have d := bneT he
  have H := Lib.hid h
  have k2 := (h.cell 4 rfl 0 (v := .pointer (some ⟨b, 0, none⟩)) rfl).1
  have k6 := (h.cell 6 rfl 0 (v := .int .i64 a) rfl).1
  have k3 := (h.cell 0 rfl 3 (v := .pointer (some ⟨hp, 0, none⟩)) rfl).1
  clear h he
  go_enter_d Tryz.func97, Tryz.ntmps97
  go_wp2_with fail
  go_still_tail 5, (by kernel_rfl)
  change wpList _ _ _ _ _ (World.drew W)
  obtain ⟨ws, hws⟩ : ∃ x, World.drew W = x := ⟨_, rfl⟩
  rw [hws]
  have hq : Mod No W ws := hws ▸ (Mod.refl _ _).drew
  clear hws
  have hfr := hfree_call (H.out.more hq) 2 1 (by omega) rfl rfl a (by omega) (by omega) e
  clear k2 k3 k5 k6
  go_wp2_with fail
  refine hfr.mono ?_
  rintro e w' ⟨rfl, h3⟩
  have H3 := Lib.hid h3
  clear hfr h3
  go_wp2
  go_end0
  exact ⟨rfl, H3.out⟩

theorem make_in (h : Sep F w w [stAt b m la s hp t, slabR s S, hpAt hp s, tabR t T]) (hT : Tab64 w) {n : Int} (h0 : 0 ≤ n) (h1 : n ≤ 3998) {a : Int} {S1 : Slb} (e : S.halloc (n + 2) = (a, 0, S1)) (a0 : 0 ≤ a) (a1 : a ≤ 67108864)
    {hd er : Int} {T1 : HTbl} (r : T.open' a = (hd, er, T1)) (hd0 : 0 ≤ hd) (hd1 : hd < 18446744073709551616)
    (hc : (er = 10 ∧ hd = 0 ∧ S1.hfree a = (0, S')) ∨ (er = 0 ∧ ∃ S2, S1.write a hd = (0, S2) ∧ S2.write (a + 1) n = (0, S'))) :
    Calls Tryz.prog 53 #[.pointer (some ⟨b, 0, none⟩), .int .i64 n] w fun e w' => e = .returned (.tuple #[.int .u64 hd, .int .i64 er]) ∧ Sep F w w' [stAt b m la s hp t, slabR s S', hpAt hp s, tabR t T1] := by
  have hB := make_boxes h 0
  have hT := hT.mod (((Mod.refl _ w).alloc (.cells #[.pointer (some ⟨b, 0, none⟩)] 46)).alloc (.cells #[.int .i64 0] 39))
  obtain ⟨W, hW⟩ : ∃ W, (w.alloc (.cells #[.pointer (some ⟨b, 0, none⟩)] 46)).alloc (.cells #[.int .i64 0] 39) = W := ⟨_, rfl⟩
  obtain ⟨bs, hbs⟩ : ∃ x, w.heap.size = x := ⟨_, rfl⟩
  rw [hW, hbs] at hB
  rw [hW] at hT
  have hno := stnone_call hB 0 rfl
  have hal := hB.hAlloc 2 1 (by omega) rfl rfl hT (n + 2) e
  have k2 := (hB.cell 4 rfl 0 (v := .pointer (some ⟨b, 0, none⟩)) rfl).1
  have k3 := (hB.cell 0 rfl 3 (v := .pointer (some ⟨hp, 0, none⟩)) rfl).1
  have d1 : decide (n < 0) = false := ltF h0
  have d2 : decide (3998 < n) = false := ltF h1
  have ew : IntKind.i64.wrap (n + 2) = n + 2 := by rw [IntKind.wrap_i64]; omega
  clear h hB hT e
  go_enter_defers Tryz.func53, Tryz.ntmps53
  go_wp2_with fail
  refine hno.mono ?_
  rintro e w' ⟨rfl, rfl⟩
  clear hno hW hbs
  go_wp2_with fail
  refine hal.mono ?_
  rintro e w1 ⟨rfl, h2⟩
  have h2 : Sep F w w1 [stAt b m la s hp t, slabR s S1, hpAt hp s, tabR t T, cellsAt bs #[.pointer (some ⟨b, 0, none⟩)] 46, cellsAt (bs + 1) #[.int .i64 0] 39] := h2
  obtain ⟨ba, hba⟩ : ∃ x, w1.heap.size = x := ⟨_, rfl⟩
  have h3 : Sep F w (w1.alloc (.cells #[.int .i64 0] 3)) [stAt b m la s hp t, slabR s S1, hpAt hp s, tabR t T, cellsAt bs #[.pointer (some ⟨b, 0, none⟩)] 46, cellsAt (bs + 1) #[.int .i64 0] 39, cellsAt ba #[.int .i64 0] 3] := by rw [← hba]; exact h2.pushCells _ _
  obtain ⟨W1, hW1⟩ : ∃ x, w1.alloc (.cells #[.int .i64 0] 3) = x := ⟨_, rfl⟩
  rw [hW1] at h3
  obtain ⟨k6, f6⟩ := h3.cell 6 rfl 0 (v := .int .i64 0) rfl
  have hA : Sep F w (W1.setCell ⟨ba, 0, none⟩ (.int .i64 a)) [stAt b m la s hp t, slabR s S1, hpAt hp s, tabR t T, cellsAt bs #[.pointer (some ⟨b, 0, none⟩)] 46, cellsAt (bs + 1) #[.int .i64 0] 39, cellsAt ba #[.int .i64 a] 3] := h3.set 6 rfl 0 (.int .i64 a)
  obtain ⟨WA, hWA⟩ : ∃ x, W1.setCell ⟨ba, 0, none⟩ (.int .i64 a) = x := ⟨_, rfl⟩
  rw [hWA] at hA
  obtain ⟨k5, f5⟩ := hA.cell 5 rfl 0 (v := .int .i64 0) rfl
  have h4 : Sep F w (WA.setCell ⟨bs + 1, 0, none⟩ (.int .i64 0)) [stAt b m la s hp t, slabR s S1, hpAt hp s, tabR t T, cellsAt bs #[.pointer (some ⟨b, 0, none⟩)] 46, cellsAt (bs + 1) #[.int .i64 0] 39, cellsAt ba #[.int .i64 a] 3] := hA.set 5 rfl 0 (.int .i64 0)
  obtain ⟨W2, hW2⟩ : ∃ x, WA.setCell ⟨bs + 1, 0, none⟩ (.int .i64 0) = x := ⟨_, rfl⟩
  rw [hW2] at h4
  obtain ⟨j5, g5⟩ := h4.cell 5 rfl 0 (v := .int .i64 0) rfl
  have H4 := Lib.hid h4
  have hmf : ∀ (fn : Fn) (first cap : Array Value) (w : World), (Instr.makeFunc fn first cap).run Tryz.prog w = .ok (.func fn first cap) w := fun _ _ _ _ => rfl
  clear hal h2 h3 h4 hA k2 k3
  go_wp2_with fail
  have h5 := H4.out.drew
  have c0 := (h5.cell 4 rfl 0 (v := .pointer (some ⟨b, 0, none⟩)) rfl).1
  have c1 := (h5.cell 0 rfl 4 (v := .pointer (some ⟨t, 0, none⟩)) rfl).1
  have c2 := (h5.cell 6 rfl 0 (v := .int .i64 a) rfl).1
  have hop := h5.tOpen 3 rfl a (by omega) r
  have RC := Lib.hid hc
  clear h5 j5 g5 H4 hW2 hWA hW1 hba k5 f5 k6 f6 hc
  refine region_only ?_
  refine wp_region_held_drew (S := fun w' => w'.cell? ⟨bs, 0, none⟩ = some (.pointer (some ⟨b, 0, none⟩)) ∧ w'.cell? ⟨b, 4, none⟩ = some (.pointer (some ⟨t, 0, none⟩)) ∧ w'.cell? ⟨ba, 0, none⟩ = some (.int .i64 a)) (by kernel_rfl) ⟨c0, c1, c2⟩ (fun hHeld => ?_)
  clear c0 c1 c2
  refine wpAnyH_takeD (i := 0) (v := ?_) (some 32) rfl (by rfl) (by kernel_rfl) (by kernel_rfl) (by kernel_rfl) (fun _ _ _ h => h) (Or.inl ⟨by rfl, ?_⟩) (by assumption) ?_
  rotate_left
  · intro w hSw
    try dsimp only at hSw
    go_simp
    try with_reducible rfl
  simp only [Act.put, List.setIfInBounds_toArray, List.set_cons_zero, List.set_cons_succ]
  refine wpAnyH_takeD (i := 1) (v := ?_) (some 33) rfl (by rfl) (by kernel_rfl) (by kernel_rfl) (by kernel_rfl) (fun _ _ _ h => h) (Or.inl ⟨by rfl, ?_⟩) (by assumption) ?_
  rotate_left
  · intro w hSw
    try dsimp only at hSw
    go_simp
    try with_reducible rfl
  simp only [Act.put, List.setIfInBounds_toArray, List.set_cons_zero, List.set_cons_succ]
  refine wpAnyH_takeD (i := 2) (v := ?_) (some 34) rfl (by rfl) (by kernel_rfl) (by kernel_rfl) (by kernel_rfl) (fun _ _ _ h => h) (Or.inl ⟨by rfl, ?_⟩) (by assumption) ?_
  rotate_left
  · intro w hSw
    try dsimp only at hSw
    go_simp
    try with_reducible rfl
  simp only [Act.put, List.setIfInBounds_toArray, List.set_cons_zero, List.set_cons_succ]
  refine wpAnyH_takeD (i := 3) (v := ?_) (some 35) rfl (by rfl) (by kernel_rfl) (by kernel_rfl) (by kernel_rfl) (fun _ _ _ h => h) (Or.inl ⟨by rfl, ?_⟩) (by assumption) ?_
  rotate_left
  · intro w hSw
    try dsimp only at hSw
    go_simp
    try with_reducible rfl
  simp only [Act.put, List.setIfInBounds_toArray, List.set_cons_zero, List.set_cons_succ]
  refine wpAnyH_takeD (i := 4) (v := ?_) (some 36) rfl (by rfl) (by kernel_rfl) (by kernel_rfl) (by kernel_rfl) (fun _ _ _ h => h) (Or.inl ⟨by rfl, ?_⟩) (by assumption) ?_
  rotate_left
  · intro w hSw
    try dsimp only at hSw
    go_simp
    try with_reducible rfl
  simp only [Act.put, List.setIfInBounds_toArray, List.set_cons_zero, List.set_cons_succ]
  refine wpAnyH_ready (rs := [5]) (by kernel_rfl) (by simp) ?_
  refine AllReadyH.cons rfl (fun K hK => ?_) AllReadyH.nil
  go_simp
  refine (hop).mono ?_
  rintro e w3 ⟨rfl, h6⟩
  have h6 : Sep F w w3 [stAt b m la s hp t, slabR s S1, hpAt hp s, tabR t T1, cellsAt bs #[.pointer (some ⟨b, 0, none⟩)] 46, cellsAt (bs + 1) #[.int .i64 0] 39, cellsAt ba #[.int .i64 a] 3] := h6
  have HX := And.intro (h6.cell 4 rfl 0 (v := .pointer (some ⟨b, 0, none⟩)) rfl).1 (And.intro (h6.cell 0 rfl 4 (v := .pointer (some ⟨t, 0, none⟩)) rfl).1 (h6.cell 6 rfl 0 (v := .int .i64 a) rfl).1)
  have H6 := Lib.hid h6
  clear hop h6
  refine hK.out _ _ HX (fun _ => ?_)
  clear hK K hHeld
  have hHeld := HX
  clear HX
  try simp only [Act.put, List.setIfInBounds_toArray, List.set_cons_zero, List.set_cons_succ]
  refine wpAnyH_takeD (i := 6) (v := ?_) (some 31) rfl (by rfl) (by kernel_rfl) (by kernel_rfl) (by kernel_rfl) (fun _ _ _ h => h) (Or.inl ⟨by rfl, ?_⟩) (by assumption) ?_
  rotate_left
  · intro w hSw
    try dsimp only at hSw
    go_simp
    try with_reducible rfl
  simp only [Act.put, List.setIfInBounds_toArray, List.set_cons_zero, List.set_cons_succ]
  refine wpAnyH_takeD (i := 7) (v := ?_) (some 38) rfl (by rfl) (by kernel_rfl) (by kernel_rfl) (by kernel_rfl) (fun _ _ _ h => h) (Or.inl ⟨by rfl, ?_⟩) (by assumption) ?_
  rotate_left
  · intro w hSw
    try dsimp only at hSw
    go_simp
    try with_reducible rfl
  simp only [Act.put, List.setIfInBounds_toArray, List.set_cons_zero, List.set_cons_succ]
  refine wpAnyH_takeD (i := 8) (v := ?_) (some 39) rfl (by rfl) (by kernel_rfl) (by kernel_rfl) (by kernel_rfl) (fun _ _ _ h => h) (Or.inl ⟨by rfl, ?_⟩) (by assumption) ?_
  rotate_left
  · intro w hSw
    try dsimp only at hSw
    go_simp
    try with_reducible rfl
  simp only [Act.put, List.setIfInBounds_toArray, List.set_cons_zero, List.set_cons_succ]
  refine wpAnyH_takeD (i := 9) (v := ?_) (some 4) rfl (by rfl) (by kernel_rfl) (by kernel_rfl) (by kernel_rfl) (fun _ _ _ h => h) (Or.inl ⟨by rfl, ?_⟩) (by assumption) ?_
  rotate_left
  · intro w hSw
    try dsimp only at hSw
    go_simp
    try with_reducible rfl
  simp only [Act.put, List.setIfInBounds_toArray, List.set_cons_zero, List.set_cons_succ]
  obtain ⟨k5, f5⟩ := H6.out.cell 5 rfl 0 (v := .int .i64 0) rfl
  have h7 : Sep F w (w3.setCell ⟨bs + 1, 0, none⟩ (.int .i64 er)) [stAt b m la s hp t, slabR s S1, hpAt hp s, tabR t T1, cellsAt bs #[.pointer (some ⟨b, 0, none⟩)] 46, cellsAt (bs + 1) #[.int .i64 er] 39, cellsAt ba #[.int .i64 a] 3] := H6.out.set 5 rfl 0 (.int .i64 er)
  have HX := And.intro (h7.cell 4 rfl 0 (v := .pointer (some ⟨b, 0, none⟩)) rfl).1 (And.intro (h7.cell 0 rfl 4 (v := .pointer (some ⟨t, 0, none⟩)) rfl).1 (h7.cell 6 rfl 0 (v := .int .i64 a) rfl).1)
  refine wpAnyH_ready (rs := [10]) (by kernel_rfl) (by simp) ?_
  refine AllReadyH.cons rfl (fun K hK => ?_) AllReadyH.nil
  go_simp
  have hHeld := HX
  refine hK.out _ _ hHeld (fun _ => ?_)
  clear hK K
  refine wpAnyH_done (by kernel_rfl) ?_ _
  clear hHeld HX k5 f5 H6
  obtain ⟨W3, hW3⟩ : ∃ x, w3.setCell ⟨bs + 1, 0, none⟩ (.int .i64 er) = x := ⟨_, rfl⟩
  rw [hW3] at h7 ⊢
  obtain ⟨k5, f5⟩ := h7.cell 5 rfl 0 (v := .int .i64 er) rfl
  have H7 := Lib.hid h7
  clear h7 hW3
  rcases RC.out with ⟨rfl, rfl, e2⟩ | ⟨rfl, S2, e2, e3⟩
  · clear RC
    have h8 : Sep F w (W3.setCell ⟨bs + 1, 0, none⟩ (.int .i64 10)).drew [stAt b m la s hp t, slabR s S1, hpAt hp s, tabR t T1, cellsAt bs #[.pointer (some ⟨b, 0, none⟩)] 46, cellsAt (bs + 1) #[.int .i64 10] 39, cellsAt ba #[.int .i64 a] 3] := (H7.out.set 5 rfl 0 (.int .i64 10)).drew
    have hmk := mk1_free h8 (by omega) a0 (by omega) e2
    have H8 := Lib.hid hmk
    clear h8 hmk e2
    go_wp2_with fail
    go_region
    go_wp2_with fail
    refine leaves_cons (f := 97) (args := #[.pointer (some ⟨bs + 1, 0, none⟩), .pointer (some ⟨bs, 0, none⟩), .pointer (some ⟨ba, 0, none⟩)]) (by simp) (by simp [go_sem]) ?_
    refine H8.out.mono ?_
    rintro e u' w'' ⟨rfl, rfl, h9⟩
    have q5 := (h9.cell 5 rfl 0 (v := .int .i64 10) rfl).1
    refine ⟨.tuple #[.int .u64 0, .int .i64 10], ?_, rfl, Sep.left (Ps := [_, _, _, _]) h9⟩
    simp [results, Tryz.f53, go_sem, q5]
  · clear RC
    have c0 := (H7.out.cell 4 rfl 0 (v := .pointer (some ⟨b, 0, none⟩)) rfl).1
    have c1 := (H7.out.cell 0 rfl 2 (v := .pointer (some ⟨s, 0, none⟩)) rfl).1
    have c2 := (H7.out.cell 6 rfl 0 (v := .int .i64 a) rfl).1
    go_wp2_with fail
    go_still_tail 6, (by kernel_rfl)
    change wpList _ _ _ _ _ (World.drew W3)
    obtain ⟨ws, hws⟩ : ∃ x, World.drew W3 = x := ⟨_, rfl⟩
    rw [hws]
    have hq : Mod No W3 ws := hws ▸ (Mod.refl _ _).drew
    clear hws
    have hwr := (H7.out.more hq).sWrite 1 rfl a hd hd0 hd1 e2
    clear e2 c0 c1 c2 k5 f5
    go_wp2_with fail
    refine hwr.mono ?_
    rintro e w4 ⟨rfl, h8⟩
    have h8 : Sep F w w4 [stAt b m la s hp t, slabR s S2, hpAt hp s, tabR t T1, cellsAt bs #[.pointer (some ⟨b, 0, none⟩)] 46, cellsAt (bs + 1) #[.int .i64 0] 39, cellsAt ba #[.int .i64 a] 3] := h8
    have c0 := (h8.cell 4 rfl 0 (v := .pointer (some ⟨b, 0, none⟩)) rfl).1
    have c1 := (h8.cell 0 rfl 2 (v := .pointer (some ⟨s, 0, none⟩)) rfl).1
    have c2 := (h8.cell 6 rfl 0 (v := .int .i64 a) rfl).1
    have H8 := Lib.hid h8
    have ea : IntKind.i64.wrap (a + 1) = a + 1 := by rw [IntKind.wrap_i64]; omega
    have en : IntKind.u64.wrap n = n := by rw [IntKind.wrap_u64]; omega
    clear hwr h8 H7 hq
    go_wp2_with fail
    go_still_tail 8, (by kernel_rfl)
    change wpList _ _ _ _ _ (World.drew w4)
    obtain ⟨ws, hws⟩ : ∃ x, World.drew w4 = x := ⟨_, rfl⟩
    rw [hws]
    have hq : Mod No w4 ws := hws ▸ (Mod.refl _ _).drew
    clear hws
    have hwr := (H8.out.more hq).sWrite 1 rfl (a + 1) n h0 (by omega) e3
    clear e3 c0 c1 c2
    go_wp2_with fail
    refine hwr.mono ?_
    rintro e w5 ⟨rfl, h9⟩
    have h9 : Sep F w w5 [stAt b m la s hp t, slabR s S', hpAt hp s, tabR t T1, cellsAt bs #[.pointer (some ⟨b, 0, none⟩)] 46, cellsAt (bs + 1) #[.int .i64 0] 39, cellsAt ba #[.int .i64 a] 3] := h9
    obtain ⟨k5, f5⟩ := h9.cell 5 rfl 0 (v := .int .i64 0) rfl
    have h10 : Sep F w (w5.setCell ⟨bs + 1, 0, none⟩ (.int .i64 0)) [stAt b m la s hp t, slabR s S', hpAt hp s, tabR t T1, cellsAt bs #[.pointer (some ⟨b, 0, none⟩)] 46, cellsAt (bs + 1) #[.int .i64 0] 39, cellsAt ba #[.int .i64 a] 3] := h9.set 5 rfl 0 (.int .i64 0)
    obtain ⟨W6, hW6⟩ : ∃ x, w5.setCell ⟨bs + 1, 0, none⟩ (.int .i64 0) = x := ⟨_, rfl⟩
    rw [hW6] at h10
    have H10 := Lib.hid h10
    clear hwr h9 h10 H8 hq
    go_wp2_with fail
    have q5 := (H10.out.cell 5 rfl 0 (v := .int .i64 0) rfl).1
    refine leaves_cons (f := 97) (args := #[.pointer (some ⟨bs + 1, 0, none⟩), .pointer (some ⟨bs, 0, none⟩), .pointer (some ⟨ba, 0, none⟩)]) (by simp) (by simp [go_sem]) ?_
    refine (mk1_none _ _ _ _ q5).mono ?_
    rintro e u' w'' ⟨rfl, rfl, rfl⟩
    refine ⟨.tuple #[.int .u64 hd, .int .i64 0], ?_, rfl, Sep.left (Ps := [_, _, _, _]) H10.out⟩
    simp [results, Tryz.f53, go_sem, q5]

theorem stmake_call (h : Sep F0 w0 w Ps) (i : Nat) (hi : Ps[i]? = some (stR b m la S T)) (hT : Tab64 w) {n hd er : Int} (M : Made S T H R n hd er S' T' H' R') :
    Calls Tryz.prog 53 #[.pointer (some ⟨b, 0, none⟩), .int .i64 n] w fun e w' => e = .returned (.tuple #[.int .u64 hd, .int .i64 er]) ∧ Sep F0 w0 w' (Ps.set i (stR b m la S' T')) := by
  refine h.lift i hi fun F h1 => ?_
  obtain ⟨s, hp, t, h2⟩ := st_open h1
  cases M with
  | arg hn I => exact (make_arg h2 hn).mono fun e w' ⟨he, h3⟩ => ⟨he, st_shut h3⟩
  | quota h0 hl e hq ho I => exact (make_quota h2 hT h0 hl e).mono fun e w' ⟨he, h3⟩ => ⟨he, st_shut h3⟩
  | full h0 hl a S1 H1 e ha A W hf ho S2 H2 e2 hpg hq I => exact (make_in h2 hT h0 hl e (by omega) (by omega) ho (by omega) (by omega) (.inl ⟨rfl, rfl, e2⟩)).mono fun e w' ⟨he, h3⟩ => ⟨he, st_shut h3⟩
  | ok h0 hl a S1 H1 e ha A W hf hd S2 S3 ho d0 d1 w1 w2 hpg hq new I => exact (make_in h2 hT h0 hl e (by omega) (by omega) ho d0 d1 (.inr ⟨rfl, S2, w1, w2⟩)).mono fun e w' ⟨he, h3⟩ => ⟨he, st_shut h3⟩
end
end Go.Proofs.YtpcomekikeoliaaGreatDoor
