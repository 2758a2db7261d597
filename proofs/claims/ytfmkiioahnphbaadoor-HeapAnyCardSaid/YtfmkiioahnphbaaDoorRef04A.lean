/- The references of layers 3 and 4 (loftref03, loftref04): Sizes, Slots, Of, Pages, slots, Place, walked. Conditions: a page's value is as said. -/
import Derived.Test.YtfmkiioahnphbaaDoorPg04
import Derived.Deep.RegionHeld3
import Derived.Deep.DeepCutAuto
set_option linter.unusedVariables false
set_option linter.unusedSimpArgs false
set_option maxRecDepth 100000
namespace Go.Proofs.YtfmkiioahnphbaaDoor
open Go Go.RowKit

def szA : Array Value := #[.int .i64 2, .int .i64 3, .int .i64 4, .int .i64 6, .int .i64 9, .int .i64 13, .int .i64 19, .int .i64 28]
theorem szA_at {c : Nat} (h : c < 8) : szA[c]? = some (.int .i64 ((csz c : Nat) : Int)) := by
  rcases eight h with rfl | rfl | rfl | rfl | rfl | rfl | rfl | rfl <;> rfl
theorem szA_cell (w : World) {c : Nat} (h : c < 8) : (w.alloc (.cells szA 3)).cell? ⟨w.heap.size, c, none⟩ = some (.int .i64 ((csz c : Nat) : Int)) := by
  rw [cell_at (heap_alloc_new w (.cells szA 3)) c]; exact szA_at h

theorem rsizes_call (w : World) : Calls Tryd.prog 63 #[] w fun e w' => e = .returned (.slice (some ⟨w.heap.size, 0, none⟩) 8 8) ∧ w.alloc (.cells szA 3) = w' := by
  go_enter Tryd.func63, Tryd.ntmps63
  go_wp2
  go_ret
  exact ⟨rfl, rfl⟩

theorem rslots3_call {c : Nat} (hc : c < 8) (w : World) : Calls Tryd.prog 72 #[.int .i64 (c : Nat)] w fun e w' => e = .returned (.tuple #[.int .i64 ((62 / csz c : Nat) : Int), .int .i64 0]) ∧ Mod No w w' := by
  have hs := rsizes_call w
  have hr := csz_range hc
  have hcl := szA_cell w hc
  have hm : Mod No w (w.alloc (.cells szA 3)) := (Mod.refl No w).alloc _
  obtain ⟨s, hse⟩ : ∃ s, csz c = s := ⟨_, rfl⟩
  rw [hse] at hcl hr ⊢
  obtain ⟨q, hq⟩ : ∃ q, 62 / s = q := ⟨_, rfl⟩
  have hqb : q ≤ 31 := by rw [← hq]; exact Nat.le_trans (Nat.div_le_div_left (c := 2) (by omega) (by omega)) (by omega)
  have HD : Hid (∀ n : Nat, (n + 1) * s ≤ 62 ↔ n < q) := fun n => by
    rw [← hq, Nat.lt_iff_add_one_le, Nat.le_div_iff_mul_le (by omega)]
  rw [hq]
  have d1 : decide ((c : Int) < 0) = false := ltF (by omega)
  have d2 : decide ((8 : Int) ≤ (c : Int)) = false := leF (by omega)
  have hc8 : c < 8 := hc
  have hci : (c : Int) < 8 := by omega
  obtain ⟨m, hmm⟩ : ∃ m, w.heap.size = m := ⟨_, rfl⟩
  rw [hmm] at hcl hs
  clear hse hq hmm
  go_enter Tryd.func72, Tryd.ntmps72
  go_wp2_with fail
  refine hs.mono ?_
  rintro e w1 ⟨rfl, hw1⟩
  rw [hw1] at hcl hm
  have HM := Lib.hid hm
  clear hs hw1 hm
  go_wp2_with fail
  go_loop [5] (fun nv => ∃ n : Nat, n ≤ q ∧ nv = .int .i64 n) (fun nv => q + 1 - (RowKit.intOf nv).toNat)
  case atStart => exact ⟨0, Nat.zero_le _, rfl⟩
  case round =>
    obtain ⟨n, hn, rfl⟩ := hrel
    have hd := HD.out n
    have hle : (n + 1) * s ≤ 32 * 28 := Nat.mul_le_mul (by omega) (by omega)
    obtain ⟨y, hy⟩ : ∃ y, (n + 1) * s = y := ⟨_, rfl⟩
    rw [hy] at hd hle
    have hy1 : ((n : Int) + 1) * (s : Int) = (y : Int) := by rw [← hy]; simp
    have e1 : IntKind.i64.wrap (y : Int) = (y : Int) := by rw [IntKind.wrap_i64]; omega
    clear hy
    by_cases hlt : n < q
    · have dy : decide ((y : Int) ≤ 62) = true := leT (by have := hd.2 hlt; omega)
      clear hd
      go_wp2
      go_round
      case rel => exact ⟨n + 1, by omega, by go_num⟩
      case measure => (simp [RowKit.intOf]; try omega)
    · obtain rfl : n = q := by omega
      have dy : decide ((y : Int) ≤ 62) = false := leF (by have := fun h => hlt (hd.1 h); omega)
      clear hd hlt
      go_wp2
      go_ret2
      exact ⟨rfl, HM.out⟩

theorem rof_call (n : Int) (w : World) : Calls Tryd.prog 54 #[.int .i64 n] w fun e w' => e = .returned (.tuple #[.int .i64 (cof n).1, .bool (cof n).2.1, .int .i64 (cof n).2.2]) ∧ Mod No w w' := by
  have hs := rsizes_call w
  have hm : Mod No w (w.alloc (.cells szA 3)) := (Mod.refl No w).alloc _
  have HC : Hid (∀ c : Nat, c < 8 → (w.alloc (.cells szA 3)).cell? ⟨w.heap.size, c, none⟩ = some (.int .i64 ((csz c : Nat) : Int))) := fun c hc => szA_cell w hc
  obtain ⟨m, hmm⟩ : ∃ m, w.heap.size = m := ⟨_, rfl⟩
  rw [hmm] at HC hs
  clear hmm
  by_cases hb : n < 1 ∨ 4000 < n
  · have e : cof n = (0, false, 2) := by unfold cof; rw [if_pos hb]
    rw [e]
    rcases Int.lt_or_le n 1 with h1 | h1
    · have d1 : decide (n < 1) = true := ltT h1
      clear hb e h1 HC
      go_enter Tryd.func54, Tryd.ntmps54
      go_wp2_with fail
      refine hs.mono ?_
      rintro e w1 ⟨rfl, rfl⟩
      clear hs
      go_wp2
      go_ret3
      exact ⟨rfl, hm⟩
    · have d1 : decide (n < 1) = false := ltF h1
      have d2 : decide (4000 < n) = true := ltT (by omega)
      clear hb e HC
      go_enter Tryd.func54, Tryd.ntmps54
      go_wp2_with fail
      refine hs.mono ?_
      rintro e w1 ⟨rfl, rfl⟩
      clear hs
      go_wp2
      go_ret3
      exact ⟨rfl, hm⟩
  · have d1 : decide (n < 1) = false := ltF (by omega)
    have d2 : decide (4000 < n) = false := ltF (by omega)
    obtain ⟨q, r1, r2, hq, hbef, hr, hat⟩ : ∃ (q : Nat) (r1 : Int) (r2 : Bool), q ≤ 8 ∧ (∀ c : Nat, c < q → ¬ n ≤ ((csz c : Nat) : Int)) ∧ cof n = (r1, r2, 0) ∧ ((q < 8 ∧ n ≤ ((csz q : Nat) : Int) ∧ r1 = (q : Nat) ∧ r2 = true) ∨ (q = 8 ∧ r1 = 0 ∧ r2 = false)) := by
      by_cases h28 : n ≤ 28
      · have hcl := clsOf_lt n
        refine ⟨clsOf n, _, true, by omega, fun c hc => ?_, by unfold cof; rw [if_neg hb, if_pos h28], .inl ⟨hcl, clsOf_le h28, rfl, rfl⟩⟩
        revert hc
        unfold clsOf
        repeat' split
        all_goals (intro hc; rcases eight (show c < 8 by omega) with rfl | rfl | rfl | rfl | rfl | rfl | rfl | rfl <;> simp only [csz] <;> omega)
      · refine ⟨8, 0, false, Nat.le_refl _, fun c hc => ?_, by unfold cof; rw [if_neg hb, if_neg h28], .inr ⟨rfl, rfl, rfl⟩⟩
        have := csz_range hc
        omega
    rw [hr]
    dsimp only
    have HB := Lib.hid hbef
    clear hbef hb hr
    go_enter Tryd.func54, Tryd.ntmps54
    go_wp2_with fail
    refine hs.mono ?_
    rintro e w1 ⟨rfl, hw1⟩
    rw [hw1] at HC hm
    clear hs hw1
    go_wp2_with fail
    go_loop [6] (fun iv => ∃ i : Nat, i ≤ q ∧ iv = .int .i64 i) (fun iv => q + 1 - (RowKit.intOf iv).toNat)
    case atStart => exact ⟨0, Nat.zero_le _, rfl⟩
    case round =>
      obtain ⟨i, hi, rfl⟩ := hrel
      by_cases hlt : i < q
      · have hcl := HC.out i (by omega)
        have dn : decide (n ≤ ((csz i : Nat) : Int)) = false := leF (by have := HB.out i hlt; omega)
        have hi8 : i < 8 := by omega
        generalize csz i = s at *
        clear hat
        go_wp2
        go_round
        case rel => exact ⟨i + 1, by omega, by go_num⟩
        case measure => (simp [RowKit.intOf]; try omega)
      · obtain rfl : i = q := by omega
        rcases hat with ⟨h8, hle, hr1, hr2⟩ | ⟨h8, hr1, hr2⟩
        · have hcl := HC.out i h8
          have dn : decide (n ≤ ((csz i : Nat) : Int)) = true := leT hle
          have HR := Lib.hid (And.intro hr1 hr2)
          generalize csz i = s at *
          clear hlt hle hr1 hr2
          go_wp2
          go_ret3
          exact ⟨by rw [HR.out.1, HR.out.2]; rfl, hm⟩
        · have HR := Lib.hid (And.intro hr1 hr2)
          subst h8
          clear hlt hr1 hr2
          go_wp2
          go_ret3
          exact ⟨by rw [HR.out.1, HR.out.2]; rfl, hm⟩

theorem rpages_call (n : Int) (w : World) : Calls Tryd.prog 55 #[.int .i64 n] w fun e w' => e = .returned (.tuple #[.int .i64 (cpages n).1, .int .i64 (cpages n).2]) ∧ Mod No w w' := by
  have hof := rof_call n w
  by_cases hb : n < 1 ∨ 4000 < n
  · have e1 : cof n = (0, false, 2) := by unfold cof; rw [if_pos hb]
    have e2 : cpages n = (0, 2) := by unfold cpages; rw [if_pos hb]
    rw [e1] at hof
    rw [e2]
    clear hb e1 e2
    go_enter Tryd.func55, Tryd.ntmps55
    go_wp2_with fail
    refine hof.mono ?_
    rintro e w1 ⟨rfl, hm⟩
    have HM := Lib.hid hm
    clear hof hm
    go_wp2
    go_ret2
    exact ⟨rfl, HM.out⟩
  · by_cases h28 : n ≤ 28
    · have e1 : cof n = (((clsOf n : Nat) : Int), true, 0) := by unfold cof; rw [if_neg hb, if_pos h28]
      have e2 : cpages n = (1, 0) := by unfold cpages; rw [if_neg hb, if_pos h28]
      rw [e1] at hof
      rw [e2]
      generalize clsOf n = c at *
      clear e1 e2
      go_enter Tryd.func55, Tryd.ntmps55
      go_wp2_with fail
      refine hof.mono ?_
      rintro e w1 ⟨rfl, hm⟩
      have HM := Lib.hid hm
      clear hof hm
      go_wp2_with fail
      go_loop [7] (fun kv => kv = .int .i64 1) (fun _ => 0)
      case atStart => rfl
      case round =>
        subst hrel
        go_wp2
        go_ret2
        exact ⟨rfl, HM.out⟩
    · have e1 : cof n = (0, false, 0) := by unfold cof; rw [if_neg hb, if_neg h28]
      have e2 : cpages n = ((n + 65) / 64, 0) := by unfold cpages; rw [if_neg hb, if_neg h28]
      rw [e1] at hof
      rw [e2]
      obtain ⟨q, hq⟩ := Int.eq_ofNat_of_zero_le (show 0 ≤ (n + 65) / 64 by omega)
      have hq1 : 1 ≤ q ∧ q ≤ 64 := by omega
      have HQ : Hid (∀ k : Nat, (k : Int) * 64 < n + 2 ↔ k < q) := fun k => by omega
      rw [hq]
      have hn : 28 < n ∧ n ≤ 4000 := by omega
      clear e1 e2 hq hb h28
      go_enter Tryd.func55, Tryd.ntmps55
      go_wp2_with fail
      refine hof.mono ?_
      rintro e w1 ⟨rfl, hm⟩
      have HM := Lib.hid hm
      clear hof hm
      go_wp2_with fail
      go_loop [7] (fun kv => ∃ k : Nat, 1 ≤ k ∧ k ≤ q ∧ kv = .int .i64 k) (fun kv => q + 1 - (RowKit.intOf kv).toNat)
      case atStart => exact ⟨1, by omega, by omega, rfl⟩
      case round =>
        obtain ⟨k, hk1, hk, rfl⟩ := hrel
        have hd := HQ.out k
        by_cases hlt : k < q
        · have dk : decide ((k : Int) * 64 < n + 2) = true := ltT (hd.2 hlt)
          clear hd
          go_wp2
          go_round
          case rel => exact ⟨k + 1, by omega, by omega, by go_num⟩
          case measure => (simp [RowKit.intOf]; try omega)
        · obtain rfl : k = q := by omega
          have dk : decide ((k : Int) * 64 < n + 2) = false := ltF (by have := fun h => hlt (hd.1 h); omega)
          clear hd hlt
          go_wp2
          go_ret2
          exact ⟨rfl, HM.out⟩

/-- A page's value. -/
structure PgV (P : RPg) (C : Array Value) : Prop where
  cells : C = P.cells.toArray
theorem PgV.at {P : RPg} {C : Array Value} (h : PgV P C) : C.size = 36 ∧ C[0]? = some (.int .i64 P.n) ∧ C[1]? = some (.int .i64 P.many) ∧ C[2]? = some (.int .i64 P.cls) ∧ C[3]? = some (.int .i64 P.wds) ∧ C[4]? = some (.bool P.lg) := by
  obtain ⟨rfl⟩ := h
  refine ⟨by simp [P.cells_len], ?_, ?_, ?_, ?_, ?_⟩ <;> simp [RPg.cells]
theorem PgV.box {P : RPg} {C : Array Value} (h : PgV P C) (w : World) {j : Nat} {v : Value} (hj : C[j]? = some v) : (w.alloc (.cells C 101)).cell? ⟨w.heap.size, j, none⟩ = some v := by
  rw [cell_at (heap_alloc_new w (.cells C 101)) j]; exact hj

set_option maxHeartbeats 1000000 in
theorem rslots_call {P : RPg} {C : Array Value} (h : PgV P C) (hP : P.Ok) (w : World) : Calls Tryd.prog 52 #[.agg C] w fun e w' => e = .returned (.int .i64 (P.slots : Nat)) ∧ Mod No w w' := by
  obtain ⟨hsz, h0, h1, h2, h3, h4⟩ := h.at
  have c4 := h.box w h4
  have c2 := h.box w h2
  have hm : Mod No w (w.alloc (.cells C 101)) := (Mod.refl No w).alloc _
  obtain ⟨m, hmm⟩ : ∃ m, w.heap.size = m := ⟨_, rfl⟩
  rw [hmm] at c4 c2
  cases hl : P.lg with
  | true =>
    have e : P.slots = 1 := by unfold RPg.slots; rw [if_pos hl]
    rw [hl] at c4
    rw [e]
    clear h hP hsz h0 h1 h2 h3 h4 c2 hl e
    go_enter Tryd.func52, Tryd.ntmps52
    go_wp2
    go_ret
    exact ⟨rfl, hm⟩
  | false =>
    have e : P.slots = 62 / csz P.cls := by unfold RPg.slots; rw [if_neg (by rw [hl]; decide)]
    have hs := rslots3_call (hP.cls8 hl).1 (w.alloc (.cells C 101))
    rw [hl] at c4
    rw [← e] at hs
    generalize P.slots = sl at *
    have HM := Lib.hid hm
    obtain ⟨W, hW⟩ : ∃ W, w.alloc (.cells C 101) = W := ⟨_, rfl⟩
    rw [hW] at hs c4 c2 HM
    clear h hP hsz h0 h1 h2 h3 h4 hl e hm
    go_enter Tryd.func52, Tryd.ntmps52
    go_wp2_with fail
    refine hs.mono ?_
    rintro e w1 ⟨rfl, hm⟩
    have HM2 := Lib.hid (HM.out.trans' hm)
    clear hs hm
    go_wp2
    go_ret
    exact ⟨rfl, HM2.out⟩

set_option maxHeartbeats 1000000 in
theorem rplace_call {P : RPg} {C : Array Value} (h : PgV P C) (hP : P.Ok) (hn : P.n < 1048576) {k : Nat} (hk : k < P.slots) (w : World) : Calls Tryd.prog 53 #[.agg C, .int .i64 (k : Nat)] w fun e w' => e = .returned (.int .i64 (P.place k : Nat)) ∧ Mod No w w' := by
  obtain ⟨hsz, h0, h1, h2, h3, h4⟩ := h.at
  have c4 := h.box w h4
  have c2 := h.box w h2
  have c0 := h.box w h0
  have hm : Mod No w (w.alloc (.cells C 101)) := (Mod.refl No w).alloc _
  obtain ⟨m, hmm⟩ : ∃ m, w.heap.size = m := ⟨_, rfl⟩
  have hml : m < (w.alloc (.cells C 101)).heap.size := by rw [World.size_alloc]; omega
  rw [hmm] at c4 c2 c0
  have e1 : IntKind.i64.wrap (64 * (P.n : Int)) = 64 * (P.n : Int) := by rw [IntKind.wrap_i64]; omega
  have e2 : IntKind.i64.wrap (64 * (P.n : Int) + 2) = 64 * (P.n : Int) + 2 := by rw [IntKind.wrap_i64]; omega
  cases hl : P.lg with
  | true =>
    have e : ((P.place k : Nat) : Int) = 64 * (P.n : Int) + 2 := by unfold RPg.place; rw [if_pos hl]; omega
    rw [hl] at c4
    rw [e]
    clear h hP hsz h0 h1 h2 h3 h4 c2 hl e hk hml
    go_enter Tryd.func53, Tryd.ntmps53
    go_wp2
    go_ret
    exact ⟨rfl, hm⟩
  | false =>
    have hc := (hP.cls8 hl).1
    have hs62 := slot_in hc (show k < 62 / csz P.cls by unfold RPg.slots at hk; rw [if_neg (by rw [hl]; decide)] at hk; exact hk)
    obtain ⟨y, hy⟩ : ∃ y, k * csz P.cls = y := ⟨_, rfl⟩
    have hy1 : (k : Int) * ((csz P.cls : Nat) : Int) = (y : Int) := by rw [← hy]; simp
    have e : ((P.place k : Nat) : Int) = 64 * (P.n : Int) + 2 + (y : Int) := by unfold RPg.place; rw [if_neg (by rw [hl]; decide), hy]; omega
    rw [hy] at hs62
    have e3 : IntKind.i64.wrap (y : Int) = (y : Int) := by rw [IntKind.wrap_i64]; omega
    have e4 : IntKind.i64.wrap (64 * (P.n : Int) + 2 + (y : Int)) = 64 * (P.n : Int) + 2 + (y : Int) := by rw [IntKind.wrap_i64]; omega
    rw [hl] at c4
    rw [e]
    have HC := Lib.hid hc
    have hci : (P.cls : Int) < 8 := by omega
    have hc8 : P.cls < 8 := hc
    have HM := Lib.hid hm
    obtain ⟨W, hW⟩ : ∃ W, w.alloc (.cells C 101) = W := ⟨_, rfl⟩
    rw [hW] at c4 c2 c0 HM hml
    have HSC : Hid (∀ W' : World, (W'.alloc (.cells szA 3)).cell? ⟨W'.heap.size, P.cls, none⟩ = some (.int .i64 ((csz P.cls : Nat) : Int))) := fun W' => szA_cell W' hc
    generalize csz P.cls = s at *
    clear h hP hsz h0 h1 h2 h3 h4 hl e hk hm HC hc hy
    go_enter Tryd.func53, Tryd.ntmps53
    go_wp2_with fail
    refine wp_region_held_drew (S := fun w' => w'.cell? ⟨m, 0, none⟩ = some (.int .i64 P.n) ∧ w'.cell? ⟨m, 2, none⟩ = some (.int .i64 P.cls)) (by kernel_rfl) ⟨c0, c2⟩ (fun hHeld => ?_)
    refine wpAnyH_takeD (i := 0) (v := ?_) (some 11) rfl (by rfl) (by kernel_rfl) (by kernel_rfl) (by kernel_rfl) (fun _ _ _ h => h) (Or.inl ⟨by rfl, ?_⟩) (by assumption) ?_
    rotate_left
    · intro w hSw
      try dsimp only at hSw
      go_simp
      try with_reducible rfl
    simp only [Act.put, List.setIfInBounds_toArray, List.set_cons_zero, List.set_cons_succ]
    refine wpAnyH_takeD (i := 1) (v := ?_) (some 12) rfl (by rfl) (by kernel_rfl) (by kernel_rfl) (by kernel_rfl) (fun _ _ _ h => h) (Or.inl ⟨by rfl, ?_⟩) (by assumption) ?_
    rotate_left
    · intro w hSw
      try dsimp only at hSw
      go_simp
      try with_reducible rfl
    simp only [Act.put, List.setIfInBounds_toArray, List.set_cons_zero, List.set_cons_succ]
    refine wpAnyH_takeD (i := 2) (v := ?_) (some 13) rfl (by rfl) (by kernel_rfl) (by kernel_rfl) (by kernel_rfl) (fun _ _ _ h => h) (Or.inl ⟨by rfl, ?_⟩) (by assumption) ?_
    rotate_left
    · intro w hSw
      try dsimp only at hSw
      go_simp
      try with_reducible rfl
    simp only [Act.put, List.setIfInBounds_toArray, List.set_cons_zero, List.set_cons_succ]
    refine wpAnyH_takeD (i := 3) (v := ?_) (some 14) rfl (by rfl) (by kernel_rfl) (by kernel_rfl) (by kernel_rfl) (fun _ _ _ h => h) (Or.inl ⟨by rfl, ?_⟩) (by assumption) ?_
    rotate_left
    · intro w hSw
      try dsimp only at hSw
      go_simp
      try with_reducible rfl
    simp only [Act.put, List.setIfInBounds_toArray, List.set_cons_zero, List.set_cons_succ]
    refine wpAnyH_takeD (i := 4) (v := ?_) (some 15) rfl (by rfl) (by kernel_rfl) (by kernel_rfl) (by kernel_rfl) (fun _ _ _ h => h) (Or.inl ⟨by rfl, ?_⟩) (by assumption) ?_
    rotate_left
    · intro w hSw
      try dsimp only at hSw
      go_simp
      try with_reducible rfl
    simp only [Act.put, List.setIfInBounds_toArray, List.set_cons_zero, List.set_cons_succ]
    refine wpAnyH_takeD (i := 6) (v := ?_) (some 17) rfl (by rfl) (by kernel_rfl) (by kernel_rfl) (by kernel_rfl) (fun _ _ _ h => h) (Or.inl ⟨by rfl, ?_⟩) (by assumption) ?_
    rotate_left
    · intro w hSw
      try dsimp only at hSw
      go_simp
      try with_reducible rfl
    simp only [Act.put, List.setIfInBounds_toArray, List.set_cons_zero, List.set_cons_succ]
    refine wpAnyH_takeD (i := 7) (v := ?_) (some 18) rfl (by rfl) (by kernel_rfl) (by kernel_rfl) (by kernel_rfl) (fun _ _ _ h => h) (Or.inl ⟨by rfl, ?_⟩) (by assumption) ?_
    rotate_left
    · intro w hSw
      try dsimp only at hSw
      go_simp
      try with_reducible rfl
    simp only [Act.put, List.setIfInBounds_toArray, List.set_cons_zero, List.set_cons_succ]
    refine wpAnyH_ready (rs := [5]) (by kernel_rfl) (by simp) ?_
    refine AllReadyH.cons rfl (fun K hK => ?_) AllReadyH.nil
    go_simp
    refine (rsizes_call _).mono ?_
    rintro e w1 ⟨rfl, hw1⟩
    have hq := HSC.out W.drew
    rw [hw1] at hq
    have hm1 : Mod No W w1 := by rw [← hw1]; exact (Mod.refl No W).drew.alloc _
    have hO := And.intro (hm1.cell c0 (fun x => x)) (hm1.cell c2 (fun x => x))
    have HM2 := Lib.hid (HM.out.trans' hm1)
    obtain ⟨M, hM⟩ : ∃ M, W.drew.heap.size = M := ⟨_, rfl⟩
    rw [hM] at hq ⊢
    clear hw1 hm1 hM
    refine hK.out _ _ hO (fun _ => ?_)
    clear hK K
    refine wpAnyH_sub (S2 := fun w' => (w'.cell? ⟨m, 0, none⟩ = some (.int .i64 P.n) ∧ w'.cell? ⟨m, 2, none⟩ = some (.int .i64 P.cls)) ∧ w'.cell? ⟨M, P.cls, none⟩ = some (.int .i64 (s : Nat))) (fun _ h => h.1) _ _ _ _ ?_
    have hHeld := And.intro hO hq
    try simp only [Act.put, List.setIfInBounds_toArray, List.set_cons_zero, List.set_cons_succ]
    refine wpAnyH_takeD (i := 8) (v := ?_) (some 19) rfl (by rfl) (by kernel_rfl) (by kernel_rfl) (by kernel_rfl) (fun _ _ _ h => h) (Or.inl ⟨by rfl, ?_⟩) (by assumption) ?_
    rotate_left
    · intro w hSw
      try dsimp only at hSw
      go_simp
      try with_reducible rfl
    simp only [Act.put, List.setIfInBounds_toArray, List.set_cons_zero, List.set_cons_succ]
    refine wpAnyH_takeD (i := 9) (v := ?_) (some 20) rfl (by rfl) (by kernel_rfl) (by kernel_rfl) (by kernel_rfl) (fun _ _ _ h => h) (Or.inl ⟨by rfl, ?_⟩) (by assumption) ?_
    rotate_left
    · intro w hSw
      try dsimp only at hSw
      go_simp
      try with_reducible rfl
    simp only [Act.put, List.setIfInBounds_toArray, List.set_cons_zero, List.set_cons_succ]
    refine wpAnyH_takeD (i := 10) (v := ?_) (some 21) rfl (by rfl) (by kernel_rfl) (by kernel_rfl) (by kernel_rfl) (fun _ _ _ h => h) (Or.inl ⟨by rfl, ?_⟩) (by assumption) ?_
    rotate_left
    · intro w hSw
      try dsimp only at hSw
      go_simp
      try with_reducible rfl
    simp only [Act.put, List.setIfInBounds_toArray, List.set_cons_zero, List.set_cons_succ]
    refine wpAnyH_takeD (i := 11) (v := ?_) (some 22) rfl (by rfl) (by kernel_rfl) (by kernel_rfl) (by kernel_rfl) (fun _ _ _ h => h) (Or.inl ⟨by rfl, ?_⟩) (by assumption) ?_
    rotate_left
    · intro w hSw
      try dsimp only at hSw
      go_simp
      try with_reducible rfl
    simp only [Act.put, List.setIfInBounds_toArray, List.set_cons_zero, List.set_cons_succ]
    refine wpAnyH_takeD (i := 12) (v := ?_) (some 4) rfl (by rfl) (by kernel_rfl) (by kernel_rfl) (by kernel_rfl) (fun _ _ _ h => h) (Or.inl ⟨by rfl, ?_⟩) (by assumption) ?_
    rotate_left
    · intro w hSw
      try dsimp only at hSw
      go_simp
      try with_reducible rfl
    simp only [Act.put, List.setIfInBounds_toArray, List.set_cons_zero, List.set_cons_succ]
    refine wpAnyH_done (by kernel_rfl) ?_ _
    clear hHeld hO hq
    go_wp2
    go_ret
    exact ⟨rfl, HM2.out⟩
end Go.Proofs.YtfmkiioahnphbaaDoor
