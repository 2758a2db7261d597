/- NodeWords, walked. Condition: the table of math/bits holds what its initialiser lays. -/
import Derived.Test.YtfmcddomciicdaaDoorNodeNoneWalk
set_option linter.unusedVariables false
set_option linter.unusedSimpArgs false
set_option maxRecDepth 100000
namespace Go.Proofs.YtfmcddomciicdaaDoor
open Go Go.RowKit

theorem six_of {l : List Int} (h : l.length = 6) : ∃ y0 y1 y2 y3 y4 y5, l = [y0, y1, y2, y3, y4, y5] := by
  match l, h with
  | [y0, y1, y2, y3, y4, y5], _ => exact ⟨y0, y1, y2, y3, y4, y5, rfl⟩

set_option maxHeartbeats 4000000 in
theorem words_in10 (x0 x1 x2 x3 x4 x5 : Int) (at0 wv : Int) (w : World) (hx : ∀ x ∈ [x0, x1, x2, x3, x4, x5], 0 ≤ x ∧ x < 18446744073709551616) (hw : 0 ≤ wv ∧ wv < 18446744073709551616) (hT : Tab64 w) :
    Calls Tryd.prog 6 #[nodeV x0 x1 x2 x3 x4 x5, .int .i64 at0, .int .u64 wv] w fun e w' => e = .returned (.bool true) ∧ Below w.heap.size w w' := by
  have HT := Lib.hid hT
  have HX := Lib.hid hx
  have hB := (Sep.nil w).pushCells #[.int .u64 x0, .int .u64 x1, .int .u64 x2, .int .u64 x3, .int .u64 x4, .int .u64 x5] 58
  obtain ⟨bx, hbx⟩ : ∃ x, w.heap.size = x := ⟨_, rfl⟩
  obtain ⟨W1, hW1⟩ : ∃ x, w.alloc (.cells #[.int .u64 x0, .int .u64 x1, .int .u64 x2, .int .u64 x3, .int .u64 x4, .int .u64 x5] 58) = x := ⟨_, rfl⟩
  rw [hW1, hbx] at hB
  have hn := stnew_call hB 640 9 9 (by omega) (by omega) (by omega) (by omega) (by omega) (by omega)
  clear hT hB hx
  go_enter Tryd.func6, Tryd.ntmps6
  go_wp2_with fail
  refine hn.mono ?_
  rintro e w1 ⟨b, rfl, h1⟩
  have h1 : Sep No w w1 [cellsAt bx #[.int .u64 x0, .int .u64 x1, .int .u64 x2, .int .u64 x3, .int .u64 x4, .int .u64 x5] 58, stR b 9 9 (Slb.empty 640) ⟨9, 9, []⟩] := h1
  have c1 := nmake_first h1 1 rfl (HT.out.mod h1.mod) (by omega) (by omega) (by omega) (by omega) (by omega) (by omega) HX.out
  obtain ⟨k0, k1, k2, k3, k4, k5⟩ := h1.six 0 rfl
  clear hn hbx hW1 h1
  go_wp2_with fail
  refine c1.mono ?_
  rintro e w2 ⟨S, T, H, a, rfl, I, _, _, h2⟩
  have h2 : Sep No w w2 [cellsAt bx #[.int .u64 x0, .int .u64 x1, .int .u64 x2, .int .u64 x3, .int .u64 x4, .int .u64 x5] 58, stR b 9 9 S T] := h2
  obtain ⟨k0, k1, k2, k3, k4, k5⟩ := h2.six 0 rfl
  have HI := Lib.hid I
  have h3 : Sep No w (w2.alloc (.cells #[.int .u64 x0, .int .u64 x1, .int .u64 x2, .int .u64 x3, .int .u64 x4, .int .u64 x5] 30)) [cellsAt bx #[.int .u64 x0, .int .u64 x1, .int .u64 x2, .int .u64 x3, .int .u64 x4, .int .u64 x5] 58, stR b 9 9 S T, cellsAt w2.heap.size #[.int .u64 x0, .int .u64 x1, .int .u64 x2, .int .u64 x3, .int .u64 x4, .int .u64 x5] 30] := h2.pushCells _ _
  have H3 := Lib.hid h3
  clear c1 I h2 h3
  go_wp2_with fail
  obtain ⟨g, hg⟩ : ∃ x, w2.heap.size = x := ⟨_, rfl⟩
  rw [hg] at H3 ⊢
  obtain ⟨W3, hW3⟩ : ∃ x, w2.alloc (.cells #[.int .u64 x0, .int .u64 x1, .int .u64 x2, .int .u64 x3, .int .u64 x4, .int .u64 x5] 30) = x := ⟨_, rfl⟩
  rw [hW3] at H3 ⊢
  clear hg hW3 k0 k1 k2 k3 k4 k5
  go_loopw [12] (fun iv wr => ∃ k : Nat, iv = .int .i64 k ∧ k ≤ 6 ∧ wr = W3) (fun iv _ => 6 - (RowKit.intOf iv).toNat)
  case atStart => exact ⟨0, rfl, Nat.zero_le _, rfl⟩
  case round =>
    obtain ⟨k, rfl, hk, rfl⟩ := hrel
    by_cases hlt : k < 6
    · obtain ⟨x, hxk⟩ : ∃ x, [x0, x1, x2, x3, x4, x5][k]? = some x := ⟨_, List.getElem?_eq_getElem (by simp; omega)⟩
      have hc := stget_call H3.out 1 rfl HI.out (hh := 4294967297) (k := (k : Nat)) (by omega) (getOk (j := 0) (i := k) (x := x) (r := ⟨4294967297, (a : Int), [x0, x1, x2, x3, x4, x5]⟩) rfl (by simp) hxk)
      have cx := (H3.out.cell 2 rfl k (v := .int .u64 x) (by
        have := congrArg (Option.map (Value.int .u64)) hxk
        rw [← List.getElem?_map] at this
        simpa using this)).1
      have dx : (x != x) = false := bneF rfl
      clear hxk
      go_wp2_with fail
      refine hc.mono ?_
      rintro e w' ⟨rfl, rfl⟩
      clear hc
      go_wp2
      go_roundw
      case rel => exact ⟨k + 1, by go_num, by omega, trivial⟩
      case measure => simp [RowKit.intOf]; omega
    · obtain rfl : k = 6 := by omega
      clear hlt
      by_cases hbad : at0 < 0 ∨ 5 < at0
      · have hc := stput_call H3.out 1 rfl HI.out (hh := 4294967297) (k := at0) (v := wv) (by omega) hw.1 hw.2 (.arg 0 ⟨4294967297, (a : Int), [x0, x1, x2, x3, x4, x5]⟩ ⟨rfl, by simp, rfl⟩ (by simp; omega) HI.out)
        have hd : decide (at0 < 0) = true ∨ decide (at0 < 0) = false ∧ decide (5 < at0) = true := by
          rcases hbad with h | h
          · exact .inl (ltT h)
          · exact .inr ⟨ltF (by omega), ltT h⟩
        clear hbad
        rcases hd with d1 | ⟨d1, d2⟩
        · go_wp2_with fail
          refine hc.mono ?_
          rintro e w4 ⟨rfl, h4⟩
          have HM := Lib.hid h4.mod
          clear hc h4
          have ha := awake10_call w4 (HT.out.mod HM.out)
          go_wp2_with fail
          refine ha.mono ?_
          rintro e w9 ⟨rfl, hm9⟩
          have H9 := Lib.hid (HM.out.trans' hm9)
          clear ha hm9
          go_wp2
          go_ret
          exact ⟨rfl, H9.out.below _ (Nat.le_refl _) (fun _ _ x => x)⟩
        · go_wp2_with fail
          refine hc.mono ?_
          rintro e w4 ⟨rfl, h4⟩
          have HM := Lib.hid h4.mod
          clear hc h4
          have ha := awake10_call w4 (HT.out.mod HM.out)
          go_wp2_with fail
          refine ha.mono ?_
          rintro e w9 ⟨rfl, hm9⟩
          have H9 := Lib.hid (HM.out.trans' hm9)
          clear ha hm9
          go_wp2
          go_ret
          exact ⟨rfl, H9.out.below _ (Nat.le_refl _) (fun _ _ x => x)⟩
      · obtain ⟨k, rfl⟩ := Int.eq_ofNat_of_zero_le (show 0 ≤ at0 by omega)
        have hk6 : k < 6 := by omega
        obtain ⟨S2, P⟩ := HI.out.putOk (j := 0) (r := ⟨4294967297, (a : Int), [x0, x1, x2, x3, x4, x5]⟩) rfl (by simp) (i := k) (by simp; omega) hw.1 hw.2
        have hc := stput_call H3.out 1 rfl HI.out (hh := 4294967297) (by omega) hw.1 hw.2 P
        obtain ⟨y0, y1, y2, y3, y4, y5, hy⟩ := six_of (l := [x0, x1, x2, x3, x4, x5].set k wv) (by simp)
        have hI2 : StInv S2 T H [⟨4294967297, (a : Int), [y0, y1, y2, y3, y4, y5]⟩] := by
          have h := P.inv
          rw [← hy]
          exact h
        have HI2 := Lib.hid hI2
        have hyc : (#[Value.int .u64 x0, .int .u64 x1, .int .u64 x2, .int .u64 x3, .int .u64 x4, .int .u64 x5] : Array Value).setIfInBounds k (.int .u64 wv) = #[.int .u64 y0, .int .u64 y1, .int .u64 y2, .int .u64 y3, .int .u64 y4, .int .u64 y5] := by
          have := congrArg (List.map (Value.int .u64)) hy
          rw [List.map_set] at this
          simp only [List.map_cons, List.map_nil] at this
          rw [List.setIfInBounds_toArray, this]
        have HYC := Lib.hid hyc
        have d1 : decide ((k : Int) < 0) = false := ltF (by omega)
        have d2 : decide (5 < (k : Int)) = false := ltF (by omega)
        clear hbad P hI2 hyc hy
        go_wp2_with fail
        refine hc.mono ?_
        rintro e w4 ⟨rfl, h4⟩
        have h4 : Sep No w w4 [cellsAt bx #[.int .u64 x0, .int .u64 x1, .int .u64 x2, .int .u64 x3, .int .u64 x4, .int .u64 x5] 58, stR b 9 9 S2 T, cellsAt g #[.int .u64 x0, .int .u64 x1, .int .u64 x2, .int .u64 x3, .int .u64 x4, .int .u64 x5] 30] := h4
        have hg := nget_ok h4 1 rfl HI2.out (hh := 4294967297) (by omega) (j := 0) (r := ⟨4294967297, (a : Int), [y0, y1, y2, y3, y4, y5]⟩) ⟨rfl, Int.natCast_nonneg a, rfl⟩ rfl
        have H4 := Lib.hid h4
        clear hc h4
        go_wp2_with fail
        refine hg.mono ?_
        rintro e w5 ⟨rfl, hm⟩
        have h5 : Sep No w (w5.alloc (.cells #[.int .u64 y0, .int .u64 y1, .int .u64 y2, .int .u64 y3, .int .u64 y4, .int .u64 y5] 58)) [cellsAt bx #[.int .u64 x0, .int .u64 x1, .int .u64 x2, .int .u64 x3, .int .u64 x4, .int .u64 x5] 58, stR b 9 9 S2 T, cellsAt g #[.int .u64 x0, .int .u64 x1, .int .u64 x2, .int .u64 x3, .int .u64 x4, .int .u64 x5] 30, cellsAt w5.heap.size #[.int .u64 y0, .int .u64 y1, .int .u64 y2, .int .u64 y3, .int .u64 y4, .int .u64 y5] 58] := (H4.out.more hm).pushCells _ _
        obtain ⟨vo, hvo⟩ : ∃ v, (#[Value.int .u64 x0, .int .u64 x1, .int .u64 x2, .int .u64 x3, .int .u64 x4, .int .u64 x5] : Array Value)[k]? = some v := ⟨_, Array.getElem?_eq_getElem (by simp; omega)⟩
        obtain ⟨cg, fg⟩ := h5.cell 2 rfl k hvo
        have h6 := h5.set 2 rfl k (.int .u64 wv)
        rw [HYC.out] at h6
        have H6 := Lib.hid h6
        clear hg hm H4 h5 h6 hvo HYC
        go_wp2_with fail
        obtain ⟨b16, hb⟩ : ∃ x, w5.heap.size = x := ⟨_, rfl⟩
        rw [hb] at H6 ⊢
        obtain ⟨W5, hW5⟩ : ∃ x, (w5.alloc (.cells #[.int .u64 y0, .int .u64 y1, .int .u64 y2, .int .u64 y3, .int .u64 y4, .int .u64 y5] 58)).setCell ⟨g, k, none⟩ (.int .u64 wv) = x := ⟨_, rfl⟩
        rw [hW5] at H6 ⊢
        have H7 := Lib.hid H6.out.drew
        obtain ⟨W7, hW7⟩ : ∃ x, W5.drew = x := ⟨_, rfl⟩
        rw [hW7] at H7
        have hs := H7.out.six 2 rfl
        clear hb hW5 cg fg H6
        refine wp_region_held_drew (S := fun w' => w'.cell? ⟨g, 0, none⟩ = some (.int .u64 y0) ∧ w'.cell? ⟨g, 1, none⟩ = some (.int .u64 y1) ∧ w'.cell? ⟨g, 2, none⟩ = some (.int .u64 y2) ∧ w'.cell? ⟨g, 3, none⟩ = some (.int .u64 y3) ∧ w'.cell? ⟨g, 4, none⟩ = some (.int .u64 y4) ∧ w'.cell? ⟨g, 5, none⟩ = some (.int .u64 y5)) (by kernel_rfl) (by rw [hW7]; exact hs) (fun hHeld => ?_)
        rw [hW7] at hHeld ⊢
        clear hs hW7
        refine wpAnyH_takeD (i := 0) (v := ?_) (some 101) rfl (by rfl) (by kernel_rfl) (by kernel_rfl) (by kernel_rfl) (fun _ _ _ h => h) (Or.inl ⟨by rfl, ?_⟩) (by assumption) ?_
        rotate_left
        · intro w hSw
          try dsimp only at hSw
          go_simp
          try with_reducible rfl
        simp only [Act.put, List.setIfInBounds_toArray, List.set_cons_zero, List.set_cons_succ]
        refine wpAnyH_takeD (i := 1) (v := ?_) (some 102) rfl (by rfl) (by kernel_rfl) (by kernel_rfl) (by kernel_rfl) (fun _ _ _ h => h) (Or.inl ⟨by rfl, ?_⟩) (by assumption) ?_
        rotate_left
        · intro w hSw
          try dsimp only at hSw
          go_simp
          try with_reducible rfl
        simp only [Act.put, List.setIfInBounds_toArray, List.set_cons_zero, List.set_cons_succ]
        refine wpAnyH_takeD (i := 2) (v := ?_) (some 103) rfl (by rfl) (by kernel_rfl) (by kernel_rfl) (by kernel_rfl) (fun _ _ _ h => h) (Or.inl ⟨by rfl, ?_⟩) (by assumption) ?_
        rotate_left
        · intro w hSw
          try dsimp only at hSw
          go_simp
          try with_reducible rfl
        simp only [Act.put, List.setIfInBounds_toArray, List.set_cons_zero, List.set_cons_succ]
        refine wpAnyH_takeD (i := 3) (v := ?_) (some 104) rfl (by rfl) (by kernel_rfl) (by kernel_rfl) (by kernel_rfl) (fun _ _ _ h => h) (Or.inl ⟨by rfl, ?_⟩) (by assumption) ?_
        rotate_left
        · intro w hSw
          try dsimp only at hSw
          go_simp
          try with_reducible rfl
        simp only [Act.put, List.setIfInBounds_toArray, List.set_cons_zero, List.set_cons_succ]
        refine wpAnyH_takeD (i := 4) (v := ?_) (some 105) rfl (by rfl) (by kernel_rfl) (by kernel_rfl) (by kernel_rfl) (fun _ _ _ h => h) (Or.inl ⟨by rfl, ?_⟩) (by assumption) ?_
        rotate_left
        · intro w hSw
          try dsimp only at hSw
          go_simp
          try with_reducible rfl
        simp only [Act.put, List.setIfInBounds_toArray, List.set_cons_zero, List.set_cons_succ]
        refine wpAnyH_takeD (i := 5) (v := ?_) (some 106) rfl (by rfl) (by kernel_rfl) (by kernel_rfl) (by kernel_rfl) (fun _ _ _ h => h) (Or.inl ⟨by rfl, ?_⟩) (by assumption) ?_
        rotate_left
        · intro w hSw
          try dsimp only at hSw
          go_simp
          try with_reducible rfl
        simp only [Act.put, List.setIfInBounds_toArray, List.set_cons_zero, List.set_cons_succ]
        refine wpAnyH_takeD (i := 6) (v := ?_) (some 107) rfl (by rfl) (by kernel_rfl) (by kernel_rfl) (by kernel_rfl) (fun _ _ _ h => h) (Or.inl ⟨by rfl, ?_⟩) (by assumption) ?_
        rotate_left
        · intro w hSw
          try dsimp only at hSw
          go_simp
          try with_reducible rfl
        simp only [Act.put, List.setIfInBounds_toArray, List.set_cons_zero, List.set_cons_succ]
        refine wpAnyH_takeD (i := 7) (v := ?_) (some 108) rfl (by rfl) (by kernel_rfl) (by kernel_rfl) (by kernel_rfl) (fun _ _ _ h => h) (Or.inl ⟨by rfl, ?_⟩) (by assumption) ?_
        rotate_left
        · intro w hSw
          try dsimp only at hSw
          go_simp
          try with_reducible rfl
        simp only [Act.put, List.setIfInBounds_toArray, List.set_cons_zero, List.set_cons_succ]
        refine wpAnyH_takeD (i := 8) (v := ?_) (some 109) rfl (by rfl) (by kernel_rfl) (by kernel_rfl) (by kernel_rfl) (fun _ _ _ h => h) (Or.inl ⟨by rfl, ?_⟩) (by assumption) ?_
        rotate_left
        · intro w hSw
          try dsimp only at hSw
          go_simp
          try with_reducible rfl
        simp only [Act.put, List.setIfInBounds_toArray, List.set_cons_zero, List.set_cons_succ]
        refine wpAnyH_takeD (i := 9) (v := ?_) (some 110) rfl (by rfl) (by kernel_rfl) (by kernel_rfl) (by kernel_rfl) (fun _ _ _ h => h) (Or.inl ⟨by rfl, ?_⟩) (by assumption) ?_
        rotate_left
        · intro w hSw
          try dsimp only at hSw
          go_simp
          try with_reducible rfl
        simp only [Act.put, List.setIfInBounds_toArray, List.set_cons_zero, List.set_cons_succ]
        refine wpAnyH_takeD (i := 10) (v := ?_) (some 111) rfl (by rfl) (by kernel_rfl) (by kernel_rfl) (by kernel_rfl) (fun _ _ _ h => h) (Or.inl ⟨by rfl, ?_⟩) (by assumption) ?_
        rotate_left
        · intro w hSw
          try dsimp only at hSw
          go_simp
          try with_reducible rfl
        simp only [Act.put, List.setIfInBounds_toArray, List.set_cons_zero, List.set_cons_succ]
        refine wpAnyH_takeD (i := 11) (v := ?_) (some 112) rfl (by rfl) (by kernel_rfl) (by kernel_rfl) (by kernel_rfl) (fun _ _ _ h => h) (Or.inl ⟨by rfl, ?_⟩) (by assumption) ?_
        rotate_left
        · intro w hSw
          try dsimp only at hSw
          go_simp
          try with_reducible rfl
        simp only [Act.put, List.setIfInBounds_toArray, List.set_cons_zero, List.set_cons_succ]
        refine wpAnyH_takeD (i := 12) (v := ?_) (some 113) rfl (by rfl) (by kernel_rfl) (by kernel_rfl) (by kernel_rfl) (fun _ _ _ h => h) (Or.inl ⟨by rfl, ?_⟩) (by assumption) ?_
        rotate_left
        · intro w hSw
          try dsimp only at hSw
          go_simp
          try with_reducible rfl
        simp only [Act.put, List.setIfInBounds_toArray, List.set_cons_zero, List.set_cons_succ]
        refine wpAnyH_takeD (i := 13) (v := ?_) (some 114) rfl (by rfl) (by kernel_rfl) (by kernel_rfl) (by kernel_rfl) (fun _ _ _ h => h) (Or.inl ⟨by rfl, ?_⟩) (by assumption) ?_
        rotate_left
        · intro w hSw
          try dsimp only at hSw
          go_simp
          try with_reducible rfl
        simp only [Act.put, List.setIfInBounds_toArray, List.set_cons_zero, List.set_cons_succ]
        refine wpAnyH_takeD (i := 14) (v := ?_) (some 115) rfl (by rfl) (by kernel_rfl) (by kernel_rfl) (by kernel_rfl) (fun _ _ _ h => h) (Or.inl ⟨by rfl, ?_⟩) (by assumption) ?_
        rotate_left
        · intro w hSw
          try dsimp only at hSw
          go_simp
          try with_reducible rfl
        simp only [Act.put, List.setIfInBounds_toArray, List.set_cons_zero, List.set_cons_succ]
        refine wpAnyH_takeD (i := 15) (v := ?_) (some 116) rfl (by rfl) (by kernel_rfl) (by kernel_rfl) (by kernel_rfl) (fun _ _ _ h => h) (Or.inl ⟨by rfl, ?_⟩) (by assumption) ?_
        rotate_left
        · intro w hSw
          try dsimp only at hSw
          go_simp
          try with_reducible rfl
        simp only [Act.put, List.setIfInBounds_toArray, List.set_cons_zero, List.set_cons_succ]
        refine wpAnyH_takeD (i := 16) (v := ?_) (some 117) rfl (by rfl) (by kernel_rfl) (by kernel_rfl) (by kernel_rfl) (fun _ _ _ h => h) (Or.inl ⟨by rfl, ?_⟩) (by assumption) ?_
        rotate_left
        · intro w hSw
          try dsimp only at hSw
          go_simp
          try with_reducible rfl
        simp only [Act.put, List.setIfInBounds_toArray, List.set_cons_zero, List.set_cons_succ]
        refine wpAnyH_takeD (i := 17) (v := ?_) (some 118) rfl (by rfl) (by kernel_rfl) (by kernel_rfl) (by kernel_rfl) (fun _ _ _ h => h) (Or.inl ⟨by rfl, ?_⟩) (by assumption) ?_
        rotate_left
        · intro w hSw
          try dsimp only at hSw
          go_simp
          try with_reducible rfl
        simp only [Act.put, List.setIfInBounds_toArray, List.set_cons_zero, List.set_cons_succ]
        refine wpAnyH_takeD (i := 18) (v := ?_) (some 119) rfl (by rfl) (by kernel_rfl) (by kernel_rfl) (by kernel_rfl) (fun _ _ _ h => h) (Or.inl ⟨by rfl, ?_⟩) (by assumption) ?_
        rotate_left
        · intro w hSw
          try dsimp only at hSw
          go_simp
          try with_reducible rfl
        simp only [Act.put, List.setIfInBounds_toArray, List.set_cons_zero, List.set_cons_succ]
        have h8 : Sep No w (W7.alloc (.cells #[.int .u64 0, .int .u64 0, .int .u64 0, .int .u64 0, .int .u64 0, .int .u64 0] 58)) [cellsAt bx #[.int .u64 x0, .int .u64 x1, .int .u64 x2, .int .u64 x3, .int .u64 x4, .int .u64 x5] 58, stR b 9 9 S2 T, cellsAt g #[.int .u64 y0, .int .u64 y1, .int .u64 y2, .int .u64 y3, .int .u64 y4, .int .u64 y5] 30, cellsAt b16 #[.int .u64 y0, .int .u64 y1, .int .u64 y2, .int .u64 y3, .int .u64 y4, .int .u64 y5] 58, cellsAt W7.heap.size #[.int .u64 0, .int .u64 0, .int .u64 0, .int .u64 0, .int .u64 0, .int .u64 0] 58] := H7.out.pushCells _ _
        have HX := h8.six 2 rfl
        refine wpAnyH_ready (rs := [19]) (by kernel_rfl) (by simp) ?_
        refine AllReadyH.cons rfl (fun K hK => ?_) AllReadyH.nil
        go_simp
        have hHeld := HX
        refine hK.out _ _ hHeld (fun _ => ?_)
        clear hK K
        have h9 : Sep No w (W7.alloc (.cells #[.int .u64 y0, .int .u64 y1, .int .u64 y2, .int .u64 y3, .int .u64 y4, .int .u64 y5] 58)) [cellsAt bx #[.int .u64 x0, .int .u64 x1, .int .u64 x2, .int .u64 x3, .int .u64 x4, .int .u64 x5] 58, stR b 9 9 S2 T, cellsAt g #[.int .u64 y0, .int .u64 y1, .int .u64 y2, .int .u64 y3, .int .u64 y4, .int .u64 y5] 30, cellsAt b16 #[.int .u64 y0, .int .u64 y1, .int .u64 y2, .int .u64 y3, .int .u64 y4, .int .u64 y5] 58, cellsAt W7.heap.size #[.int .u64 y0, .int .u64 y1, .int .u64 y2, .int .u64 y3, .int .u64 y4, .int .u64 y5] 58] := H7.out.pushCells _ _
        have HX := h9.six 2 rfl
        have H9 := Lib.hid h9
        clear h8 h9
        refine wpAnyH_ready (rs := [20]) (by kernel_rfl) (by simp) ?_
        refine AllReadyH.cons rfl (fun K hK => ?_) AllReadyH.nil
        go_simp
        have hHeld := HX
        refine hK.out _ _ hHeld (fun _ => ?_)
        clear hK K
        refine wpAnyH_done (by kernel_rfl) ?_ _
        clear hHeld HX H7
        obtain ⟨b18, hb⟩ : ∃ x, W7.heap.size = x := ⟨_, rfl⟩
        rw [hb] at H9 ⊢
        obtain ⟨W9, hW⟩ : ∃ x, W7.alloc (.cells #[.int .u64 y0, .int .u64 y1, .int .u64 y2, .int .u64 y3, .int .u64 y4, .int .u64 y5] 58) = x := ⟨_, rfl⟩
        rw [hW] at H9 ⊢
        clear hb hW
        obtain ⟨p0, p1, p2, p3, p4, p5⟩ := H9.out.six 3 rfl
        obtain ⟨q0, q1, q2, q3, q4, q5⟩ := H9.out.six 4 rfl
        have HM := Lib.hid H9.out.mod
        clear H9
        have ha := awake10_call W9 (HT.out.mod HM.out)
        go_wp2_with fail
        refine ha.mono ?_
        rintro e w9 ⟨rfl, hm9⟩
        have H9 := Lib.hid (HM.out.trans' hm9)
        clear ha hm9
        go_wp2
        go_ret
        exact ⟨rfl, H9.out.below _ (Nat.le_refl _) (fun _ _ x => x)⟩

theorem nodeWords_walk (a0 : List Int) (a1 a2 : Int) (w : World) (w0 : Kinds [some .u64, some .u64, some .u64, some .u64, some .u64, some .u64] a0) (w1 : (Lit.int .i64 a1).wf = true) (w2 : (Lit.int .u64 a2).wf = true) (hT : Tab64 w) :
    Calls Tryd.prog 6 #[.agg (List.zipWith fv [some .u64, some .u64, some .u64, some .u64, some .u64, some .u64] a0).toArray, .int .i64 a1, .int .u64 a2] w fun e w' => e = .returned (.bool true) ∧ Below w.heap.size w w' := by
  obtain ⟨x0, x1, x2, x3, x4, x5, rfl, hx⟩ := kinds_six w0
  exact words_in10 x0 x1 x2 x3 x4 x5 a1 a2 w hx (by have := bounds_u64 w2; omega) hT
end Go.Proofs.YtfmcddomciicdaaDoor
