/- The reference of layer 1 (loftref01): Free, Numbers, Same, New, walked. Conditions: the arena in memory is as said. -/
import Derived.Test.YtnkdopaajpbjfaaSlabRef
namespace Go.Proofs.Ytnkdopaajpbjfaa
open Go Go.RowKit

variable {w : World} {v : Value} {S : Slb}

theorem rfree_call (hr : w.ownsRow 0 59 65 v S.pg.length (prow S.wd S.pg)) (hS : S.Ok) (f n : Nat) (hf : f ≤ 100000000) (hn : n ≤ 4096) :
    Calls Try.prog 39 #[.agg #[.int .i64 S.quota, v], .int .i64 f, .int .i64 n] w fun e w' => e = .returned (.bool (Slb.freeB S.pg f n)) ∧ Mod No w w' := by
  have hlen : (S.pg.length : Int) ≤ 4096 := by have := Slb.len_le hS; omega
  obtain ⟨sa, cap, rfl⟩ := row_form hr
  have hm : Mod No w (w.alloc (.cells #[.int .i64 S.quota, .slice sa S.pg.length cap] 48)) := (Mod.refl _ _).alloc _
  have HS : Hid (∀ (j k : Nat), S.pg[j]? = some k → ∃ g, sa = some ⟨g, 0, none⟩ ∧ g < w.heap.size ∧ w.cell? ⟨g, j * 65, none⟩ = some (.int .i64 k)) := by
    intro j k hk
    obtain ⟨g, h1, _, h2, h3, _⟩ := ppage hr hk
    exact ⟨g, h1, h2, h3⟩
  obtain ⟨p, hle, hbef, hcase⟩ : ∃ p, p ≤ S.pg.length ∧ (∀ (j k : Nat), j < p → S.pg[j]? = some k → k < f ∨ f + n ≤ k) ∧ (p = S.pg.length ∧ Slb.freeB S.pg f n = true ∨ p < S.pg.length ∧ Slb.freeB S.pg f n = false ∧ ∃ k : Nat, S.pg[p]? = some k ∧ f ≤ k ∧ k < f + n) := by
    refine ⟨S.pg.findIdx fun k => decide (f ≤ k) && decide (k < f + n), List.findIdx_le_length, fun j k hj hk => ?_, ?_⟩
    · have := List.not_of_lt_findIdx hj
      obtain ⟨hl, rfl⟩ := List.getElem?_eq_some_iff.1 hk
      simp only [Bool.and_eq_false_iff, decide_eq_false_iff_not] at this
      simp at this
      omega
    · rcases Nat.lt_or_ge (S.pg.findIdx fun k => decide (f ≤ k) && decide (k < f + n)) S.pg.length with hl | hl
      · have h1 := List.findIdx_getElem (p := fun k => decide (f ≤ k) && decide (k < f + n)) (xs := S.pg) (w := hl)
        rw [Bool.and_eq_true, decide_eq_true_eq, decide_eq_true_eq] at h1
        refine .inr ⟨hl, ?_, _, List.getElem?_eq_getElem hl, h1.1, h1.2⟩
        cases hb : Slb.freeB S.pg f n with
        | false => rfl
        | true =>
          have := Slb.freeB_iff.1 hb _ (List.getElem_mem hl)
          omega
      · refine .inl ⟨Nat.le_antisymm List.findIdx_le_length hl, Slb.freeB_iff.2 fun k hk => ?_⟩
        have h1 := List.findIdx_eq_length.1 (Nat.le_antisymm List.findIdx_le_length hl) k hk
        simp at h1
        omega
  have hbef := Lib.hid hbef
  have hcase := Lib.hid hcase
  have hsm := Lib.hid hS.small
  have hle := hle
  obtain ⟨r, hrr⟩ : ∃ r, Slb.freeB S.pg f n = r := ⟨_, rfl⟩
  rw [hrr] at hcase ⊢
  clear hr hS hrr
  go_enter Try.func39, Try.ntmps39
  go_wp2_with fail
  go_loop [7] (fun k => ∃ j : Nat, j ≤ p ∧ k = .int .i64 j) (fun k => p + 1 - (RowKit.intOf k).toNat)
  case atStart => exact ⟨0, Nat.zero_le _, rfl⟩
  case round =>
    obtain ⟨j, hj, rfl⟩ := hrel
    by_cases hlt : j < p
    · have hs := List.getElem?_eq_getElem (show j < S.pg.length by omega)
      obtain ⟨g, rfl, hg, c0⟩ := HS.out j _ hs
      have hne := hbef.out j _ hlt hs
      have hkm := hsm.out _ (List.mem_of_getElem? hs)
      have hjl : j < S.pg.length := by omega
      generalize S.pg[j] = k at *
      rcases hne with hne | hne
      · have b1 : decide ((f : Int) ≤ (k : Int)) = false := leF (by omega)
        have b3 : decide (f ≤ k) = false := decide_eq_false (by omega)
        clear hne hs
        go_wp2
        go_round
        case rel => exact ⟨j + 1, by omega, by go_num⟩
        case measure => simp [RowKit.intOf]; omega
      · have b1 : decide ((f : Int) ≤ (k : Int)) = true := leT (by omega)
        have b3 : decide (f ≤ k) = true := decide_eq_true (by omega)
        have b2 : decide ((k : Int) < (f : Int) + (n : Int)) = false := ltF (by omega)
        clear hne hs
        go_wp2
        go_round
        case rel => exact ⟨j + 1, by omega, by go_num⟩
        case measure => simp [RowKit.intOf]; omega
    · obtain rfl : j = p := by omega
      rcases hcase.out with ⟨h2, rfl⟩ | ⟨hjl, rfl, k, hs, hn1, hn2⟩
      · subst h2
        go_wp2
        go_ret
        exact ⟨rfl, hm⟩
      · obtain ⟨g, rfl, hg, c0⟩ := HS.out j _ hs
        have b1 : decide ((f : Int) ≤ (k : Int)) = true := leT (by omega)
        have b3 : decide (f ≤ k) = true := decide_eq_true (by omega)
        have b2 : decide ((k : Int) < (f : Int) + (n : Int)) = true := ltT (by omega)
        clear hs hn1 hn2
        go_wp2
        go_ret
        exact ⟨rfl, hm⟩

theorem infoInt : (Try.prog.info? 3).map (fun i => (i.zero, i.size, i.bytes)) = some (some (.int .i64 0), 1, 8) := by kernel_rfl

def nums (L : List Nat) : List Int := L.map fun k : Nat => (k : Int)

set_option maxRecDepth 100000 in
theorem rnumbers_call (hr : w.ownsRow 0 59 65 v S.pg.length (prow S.wd S.pg)) (hS : S.Ok) :
    Calls Try.prog 22 #[.agg #[.int .i64 S.quota, v]] w fun e w' => ∃ sa cap, e = .returned (.slice sa S.pg.length cap) ∧ Sep No w w' [intsAt 3 .i64 (.slice sa S.pg.length cap) (nums S.pg)] := by
  have hlen : (S.pg.length : Int) ≤ 4096 := by have := Slb.len_le hS; omega
  obtain ⟨i0, hi0, hz0, hz1, hz2⟩ := info_parts infoInt
  have HI := Lib.hid (And.intro hi0 (And.intro hz0 (And.intro hz1 hz2)))
  obtain ⟨sa, cap, rfl⟩ := row_form hr
  have hst : Sep No w (w.alloc (.cells #[.int .i64 S.quota, .slice sa S.pg.length cap] 48)) [cellsAt w.heap.size #[.int .i64 S.quota, .slice sa S.pg.length cap] 48, intsAt 3 .i64 (.slice none 0 0) (nums (S.pg.take 0))] := ((Sep.nil w).pushCells _ _).pushNil _ _
  have HR := Lib.hid hr
  have HST := Lib.hid hst
  obtain ⟨B, hB⟩ : ∃ B, w.heap.size = B := ⟨_, rfl⟩
  clear hr hS hst hi0 hz0 hz1 hz2
  go_enter Try.func22, Try.ntmps22
  go_wp2_with fail
  rw [hB] at HST
  clear hB
  go_loopw [3, 4] (fun out i wr => ∃ j : Nat, j ≤ S.pg.length ∧ i = .int .i64 j ∧ Sep No w wr [cellsAt B #[.int .i64 S.quota, .slice sa S.pg.length cap] 48, intsAt 3 .i64 out (nums (S.pg.take j))]) (fun _ i _ => S.pg.length - (RowKit.intOf i).toNat)
  case atStart => exact ⟨0, Nat.zero_le _, rfl, HST.out⟩
  case round =>
    obtain ⟨j, hj, rfl, h⟩ := hrel
    have c2 := (h.cell 0 rfl 1 (v := .slice sa S.pg.length cap) rfl).1
    have hbl := lt_of_at (h.block 0 rfl)
    clear HST
    have hln : (nums (S.pg.take j)).length = j := by rw [nums, List.length_map, List.length_take]; omega
    obtain ⟨sl, cl, rfl⟩ := h.form 1 rfl
    rw [intsAt, hln] at h
    rw [hln]
    by_cases hlt : j < S.pg.length
    · have hs := List.getElem?_eq_getElem hlt
      obtain ⟨g, rfl, _, hg, c0, _⟩ := ppage HR.out hs
      have c0 := h.old c0
      have hgw := Nat.lt_of_lt_of_le hg h.size
      have HX := Lib.hid (show nums (S.pg.take (j + 1)) = nums (S.pg.take j) ++ [((S.pg[j] : Nat) : Int)] from by
        rw [List.take_add_one, hs, nums, List.map_append]; rfl)
      generalize S.pg[j] = k at *
      obtain ⟨hi0, hz0, hz1, hz2⟩ := HI.out
      clear hs hg hln
      go_wp2_with (at_builtin; refine wpList_append_sep1 h 1 rfl (by rfl) _ _ 22 rfl Try.underlying22 hi0 hz0 hz1 hz2 rfl (by rfl) _ _ (by rfl) (by simp) (by rfl) _ (by unfold maxLen; omega) (by omega) ?_)
      intro gg capg w2 h2
      have H2 := Lib.hid h2
      clear h2 h hi0 hz0 hz1 hz2
      go_wp2
      go_roundw
      case rel =>
        refine ⟨j + 1, by omega, by go_num, ?_⟩
        have hl2 : (nums (S.pg.take (j + 1))).length = j + 1 := by rw [nums, List.length_map, List.length_take]; omega
        rw [intsAt, hl2, HX.out, List.map_append]
        exact H2.out
      case measure => simp [RowKit.intOf]; omega
    · obtain rfl : j = S.pg.length := by omega
      have H := Lib.hid h
      clear h hln
      go_wp2
      go_ret
      refine ⟨sl, cl, rfl, ?_⟩
      have h1 := H.out
      rw [List.take_length] at h1
      have hl2 : (nums S.pg).length = S.pg.length := by rw [nums, List.length_map]
      rw [intsAt, hl2]
      exact h1.pick (fun _ => 1) (fun i hi => by match i, hi with | 0, _ => rfl) (fun i j hi hj hij => by match i, j, hi, hj with | 0, 0, _, _ => exact absurd rfl hij)

theorem rsame_call {sa sb : Option Addr} {ca cb : Nat} {xs : List Int} (h1 : w.ownsRow 0 3 1 (.slice sa xs.length ca) xs.length (xs.map (Value.int .i64))) (h2 : w.ownsRow 0 3 1 (.slice sb xs.length cb) xs.length (xs.map (Value.int .i64))) (hl : xs.length ≤ 1000000) :
    Calls Try.prog 21 #[.slice sa xs.length ca, .slice sb xs.length cb] w fun e w' => e = .returned (.bool true) ∧ Mod No w w' := by
  have HS : Hid (∀ (j : Nat) x, xs[j]? = some x → ∃ g g', sa = some ⟨g, 0, none⟩ ∧ sb = some ⟨g', 0, none⟩ ∧ w.cell? ⟨g, j, none⟩ = some (.int .i64 x) ∧ w.cell? ⟨g', j, none⟩ = some (.int .i64 x)) := by
    intro j x hx
    have hjl := (List.getElem?_eq_some_iff.1 hx).1
    obtain ⟨g, cap', hv⟩ := Joins.ownsRow_form h1 (by omega)
    obtain ⟨g', cap'', hv'⟩ := Joins.ownsRow_form h2 (by omega)
    simp only [Value.slice.injEq, true_and] at hv hv'
    obtain ⟨rfl, rfl⟩ := hv
    obtain ⟨rfl, rfl⟩ := hv'
    refine ⟨g, g', rfl, rfl, ?_, ?_⟩
    · rw [h1.cellAt _ (by omega), List.getElem?_map, hx]; rfl
    · rw [h2.cellAt _ (by omega), List.getElem?_map, hx]; rfl
  obtain ⟨n, hn⟩ : ∃ n, xs.length = n := ⟨_, rfl⟩
  have HN := Lib.hid hn
  rw [hn] at hl ⊢
  have bn : ((n : Int) != n) = false := bneF rfl
  clear h1 h2 hn
  go_enter Try.func21, Try.ntmps21
  go_wp2_with fail
  go_loopw [5] (fun i wr => ∃ j : Nat, j ≤ n ∧ i = .int .i64 j ∧ ∃ nq, wr = w.drewN nq) (fun i _ => n - (RowKit.intOf i).toNat)
  case atStart => exact ⟨0, Nat.zero_le _, rfl, 0, rfl⟩
  case round =>
    obtain ⟨j, hj, rfl, nq, rfl⟩ := hrel
    by_cases hlt : j < n
    · have hx := List.getElem?_eq_getElem (show j < xs.length by rw [HN.out]; exact hlt)
      obtain ⟨g, g', rfl, rfl, c1, c2⟩ := HS.out j _ hx
      have hlt' : (j : Int) < (n : Int) := by omega
      have hj0 : (0 : Int) ≤ (j : Int) := by omega
      generalize xs[j]'(by rw [HN.out]; exact hlt) = x at *
      have bx : (x != x) = false := bneF rfl
      clear hx HS
      go_wp2_with fail
      go_quiet (fail)
      go_wp2
      go_roundw
      case rel => exact ⟨j + 1, by omega, by go_num, _, rfl⟩
      case measure => simp [RowKit.intOf]; omega
    · obtain rfl : j = n := by omega
      clear HS
      go_wp2
      go_ret
      exact ⟨rfl, ⟨rfl, rfl, rfl, Nat.le_refl _, fun _ _ _ => rfl⟩⟩

theorem rnew_ok (q : Int) (h1 : 0 ≤ q) (h2 : q ≤ 262144) (w : World) :
    Calls Try.prog 19 #[.int .i64 q] w fun e w' => e = .returned (.tuple #[.agg #[.int .i64 q, .slice none 0 0], .int .i64 0]) ∧ Mod No w w' := by
  have d1 : decide (q < 0) = false := ltF h1
  have d2 : decide (262144 < q) = false := ltF h2
  have hm : ∀ o, Mod No w (w.alloc o) := fun o => (Mod.refl _ w).alloc o
  have HM := Lib.hid hm
  clear hm
  go_enter Try.func19, Try.ntmps19
  go_wp2
  exact bodyPost_ret (v := .tuple #[.agg #[.int .i64 q, .slice none 0 0], .int .i64 0]) (by simp [results, Try.results19, go_sem]) rfl ⟨rfl, HM.out _⟩

theorem rnew_no (q : Int) (h : q < 0 ∨ 262144 < q) (w : World) :
    Calls Try.prog 19 #[.int .i64 q] w fun e w' => e = .returned (.tuple #[.agg #[.int .i64 0, .slice none 0 0], .int .i64 2]) ∧ Mod No w w' := by
  have hm : ∀ o, Mod No w (w.alloc o) := fun o => (Mod.refl _ w).alloc o
  have HM := Lib.hid hm
  clear hm
  by_cases c1 : q < 0
  · have d1 : decide (q < 0) = true := ltT c1
    clear h
    go_enter Try.func19, Try.ntmps19
    go_wp2
    exact bodyPost_ret (v := .tuple #[.agg #[.int .i64 0, .slice none 0 0], .int .i64 2]) (by simp [results, Try.results19, go_sem]) rfl ⟨rfl, HM.out _⟩
  · have d1 : decide (q < 0) = false := ltF (by omega)
    have d2 : decide (262144 < q) = true := ltT (by omega)
    clear h
    go_enter Try.func19, Try.ntmps19
    go_wp2
    exact bodyPost_ret (v := .tuple #[.agg #[.int .i64 0, .slice none 0 0], .int .i64 2]) (by simp [results, Try.results19, go_sem]) rfl ⟨rfl, HM.out _⟩
end Go.Proofs.Ytnkdopaajpbjfaa
