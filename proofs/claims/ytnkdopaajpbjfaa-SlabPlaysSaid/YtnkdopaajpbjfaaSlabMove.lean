/- slab.Slab: Move, walked. Conditions: the arena is as said; arguments are 64-bit. -/
import Derived.Test.YtnkdopaajpbjfaaSlabRelease
namespace Go.Proofs.Ytnkdopaajpbjfaa
open Go Go.RowKit

variable {F0 : Nat → Prop} {w0 w : World} {Ps : List Res}


theorem infoU64 : (Try.prog.info? 30).map (fun i => (i.zero, i.size, i.bytes)) = some (some (.int .u64 0), 1, 8) := by kernel_rfl

theorem sMove_err (h : Sep F0 w0 w Ps) (i : Nat) {s : Nat} {S : Slb} (hi : Ps[i]? = some (slabR s S)) (to f n : Int) (t1 : to ≤ 9223372036854775807) (f1 : f ≤ 9223372036854775807) (hbad : Slb.moveBad to f n = true) :
    Calls Try.prog 25 #[.pointer (some ⟨s, 0, none⟩), .int .i64 to, .int .i64 f, .int .i64 n] w fun e w' => e = .returned (.int .i64 2) ∧ Sep F0 w0 w' (Ps.set i (slabR s S)) := by
  obtain ⟨b, p, hM, hS, back⟩ := h.sGet i hi
  have hfin := Lib.hid (back w b p S hM hS (Mod.refl _ w) (fun k hk => .inl hk))
  have hN := hM.there
  simp only [Slb.moveBad, decide_eq_true_eq] at hbad
  clear h hi hM hS back
  by_cases g1 : n < 0
  · have d1 : decide (n < 0) = true := ltT g1
    clear hbad g1
    go_enter Try.func25, Try.ntmps25
    go_wp2_with ((with_reducible refine hN.mono ?_); rintro e w' ⟨rfl, rfl⟩)
    go_ret
    exact ⟨rfl, hfin.out⟩
  have n0 : 0 ≤ n := by omega
  have d1 : decide (n < 0) = false := ltF n0
  by_cases g2 : 262144 < n
  · have d2 : decide (262144 < n) = true := ltT g2
    clear hbad g1 g2
    go_enter Try.func25, Try.ntmps25
    go_wp2_with ((with_reducible refine hN.mono ?_); rintro e w' ⟨rfl, rfl⟩)
    go_ret
    exact ⟨rfl, hfin.out⟩
  have n1 : n ≤ 262144 := by omega
  have d2 : decide (262144 < n) = false := ltF n1
  by_cases g3 : to < 0
  · have d3 : decide (to < 0) = true := ltT g3
    clear hbad g1 g2 g3
    go_enter Try.func25, Try.ntmps25
    go_wp2_with ((with_reducible refine hN.mono ?_); rintro e w' ⟨rfl, rfl⟩)
    go_ret
    exact ⟨rfl, hfin.out⟩
  have t0 : 0 ≤ to := by omega
  have d3 : decide (to < 0) = false := ltF t0
  by_cases g4 : f < 0
  · have d4 : decide (f < 0) = true := ltT g4
    clear hbad g1 g2 g3 g4
    go_enter Try.func25, Try.ntmps25
    go_wp2_with ((with_reducible refine hN.mono ?_); rintro e w' ⟨rfl, rfl⟩)
    go_ret
    exact ⟨rfl, hfin.out⟩
  have f0 : 0 ≤ f := by omega
  have d4 : decide (f < 0) = false := ltF f0
  have d5 : decide (67108863 - max (n - 1) 0 < max to f) = true := ltT (by omega)
  clear hbad g1 g2 g3 g4
  go_enter Try.func25, Try.ntmps25
  go_wp2_with ((with_reducible refine hN.mono ?_); rintro e w' ⟨rfl, rfl⟩)
  go_ret
  exact ⟨rfl, hfin.out⟩

namespace Slb
/-- The arena when j words have been moved. -/
def mv (S : Slb) (to f j : Nat) : Slb := { S with wd := fun a => if to ≤ a ∧ a < to + j then S.wd (f + (a - to)) else S.wd a }
theorem mv_zero (S : Slb) (to f : Nat) : S.mv to f 0 = S := by
  unfold mv
  congr 1
  funext a
  rw [if_neg (by omega)]
theorem mv_err (S : Slb) (to f j : Nat) (a : Int) : (S.mv to f j).err a = S.err a := rfl
theorem mv_step (S : Slb) (to f j : Nat) (he : S.err ((to : Int) + (j : Int)) = 0) : (S.mv to f j).write ((to : Int) + (j : Int)) (S.wd (f + j)) = (0, S.mv to f (j + 1)) := by
  unfold write
  rw [mv_err, if_pos he]
  congr 1
  unfold mv
  congr 1
  funext a
  rw [show ((to : Int) + (j : Int)).toNat = to + j by omega]
  by_cases h1 : a = to + j
  · subst h1
    rw [if_pos rfl, if_pos (by omega), show f + (to + j - to) = f + j by omega]
  · rw [if_neg h1]
    dsimp only
    by_cases h2 : to ≤ a ∧ a < to + j
    · rw [if_pos h2, if_pos (by omega)]
    · rw [if_neg h2, if_neg (by omega)]
end Slb

set_option maxRecDepth 100000 in
set_option maxHeartbeats 1000000 in
theorem smove_main {F : Nat → Prop} {s : Nat} {S : Slb} (h : Sep F w w [slabR s S]) (to f n : Nat) (h1 : n ≤ 262144) (h2 : to + n ≤ 67108864 ∧ f + n ≤ 67108864 ∧ to ≤ 67108863 ∧ f ≤ 67108863) {er : Int} {S' : Slb} (r : S.move to f n = (er, S')) :
    Calls Try.prog 25 #[.pointer (some ⟨s, 0, none⟩), .int .i64 to, .int .i64 f, .int .i64 n] w fun e w' => e = .returned (.int .i64 er) ∧ Sep F w w' [slabR s S'] := by
  have hS := h.sOk 0 rfl
  have hN := h.sThere 0 rfl
  have hnb : Slb.moveBad to f n = false := by simp only [Slb.moveBad, decide_eq_false_iff_not]; omega
  unfold Slb.move at r
  rw [hnb] at r
  have d1 : decide ((n : Int) < 0) = false := ltF (by omega)
  have d2 : decide ((262144 : Int) < (n : Int)) = false := ltF (by omega)
  have d3 : decide ((to : Int) < 0) = false := ltF (by omega)
  have d4 : decide ((f : Int) < 0) = false := ltF (by omega)
  have d5 : decide (67108863 - max ((n : Int) - 1) 0 < max (to : Int) (f : Int)) = false := ltF (by omega)
  have HALL := Lib.hid (show (List.range n).all (fun k => S.has (((f : Int) + (k : Int)) / 64) && S.has (((to : Int) + (k : Int)) / 64)) = true ↔ ∀ k, k < n → S.err ((f : Int) + (k : Int)) = 0 ∧ S.err ((to : Int) + (k : Int)) = 0 from by
    rw [List.all_eq_true]
    constructor
    · intro h k hk
      have := h k (List.mem_range.2 hk)
      rw [Bool.and_eq_true] at this
      exact ⟨(Slb.err_iff (by omega) (by omega)).2 this.1, (Slb.err_iff (by omega) (by omega)).2 this.2⟩
    · intro h k hk
      have hk' := List.mem_range.1 hk
      have := h k hk'
      rw [Bool.and_eq_true]
      exact ⟨(Slb.err_iff (by omega) (by omega)).1 this.1, (Slb.err_iff (by omega) (by omega)).1 this.2⟩)
  simp only [Bool.false_eq_true, if_false, Int.toNat_natCast] at r
  have HR := Lib.hid r
  have hXW := Lib.hid hS.words
  have hbad5 := Lib.hid (fun (a : Int) (h0 : 0 ≤ a) (h1 : a ≤ 67108863) (hne : S.err a ≠ 0) => (show S.err a = 5 from by
    rcases Slb.err_range S a with h | h | h
    · exact absurd h hne
    · unfold Slb.err at h
      rw [if_neg (by omega)] at h
      split at h <;> omega
    · exact h))
  obtain ⟨i0, hi0, hz0, hz1, hz2⟩ := info_parts infoU64
  have HI := Lib.hid (And.intro hi0 (And.intro hz0 (And.intro hz1 hz2)))
  have hst := Lib.hid (show Sep F w w [slabR s S, intsAt 30 .u64 (.slice none 0 0) ((List.range 0).map fun i => S.wd (f + i))] from h.pushNil _ _)
  clear h hS r hnb hi0 hz0 hz1 hz2
  go_enter Try.func25, Try.ntmps25
  go_wp2_with ((with_reducible refine hN.mono ?_); rintro e w' ⟨rfl, rfl⟩)
  go_loopw [9, 46] (fun l ix wr => ∃ k : Nat, ix = .int .i64 k ∧ k ≤ n ∧ Sep F w wr [slabR s S, intsAt 30 .u64 l ((List.range k).map fun i => S.wd (f + i))] ∧ ∀ i, i < k → S.err ((f : Int) + (i : Int)) = 0 ∧ S.err ((to : Int) + (i : Int)) = 0) (fun _ ix _ => n - (RowKit.intOf ix).toNat)
  case atStart => exact ⟨0, rfl, Nat.zero_le _, hst.out, by intro i hi; omega⟩
  case round =>
    obtain ⟨k, rfl, hk, h, hall⟩ := hrel
    clear hst
    have HA := Lib.hid hall
    clear hall
    by_cases hlt : k < n
    · by_cases he : S.err ((f : Int) + (k : Int)) = 0
      · have hr1 : S.read ((f : Int) + (k : Int)) = (S.wd (f + k), 0) := by
          unfold Slb.read
          rw [if_pos he, show ((f : Int) + (k : Int)).toNat = f + k by omega]
        have hc1 := h.sRead 0 rfl _ hr1
        by_cases he2 : S.err ((to : Int) + (k : Int)) = 0
        · have hr2 : S.read ((to : Int) + (k : Int)) = (S.wd (to + k), 0) := by
            unfold Slb.read
            rw [if_pos he2, show ((to : Int) + (k : Int)).toNat = to + k by omega]
          have hc2 := h.sRead 0 rfl _ hr2
          have HE := Lib.hid (And.intro he he2)
          obtain ⟨sl, cl, rfl⟩ := h.form 1 rfl
          have hh := h
          rw [intsAt, List.length_map, List.length_range] at hh
          rw [List.length_map, List.length_range]
          generalize S.wd (to + k) = y at *
          have hx : ((List.range k).map fun i => S.wd (f + i)) ++ [S.wd (f + k)] = (List.range (k + 1)).map fun i => S.wd (f + i) := by rw [List.range_succ, List.map_append]; rfl
          have HX := Lib.hid hx
          generalize S.wd (f + k) = x at *
          obtain ⟨hi0, hz0, hz1, hz2⟩ := HI.out
          clear he he2 hr1 hr2 hx h
          go_wp2_with fail
          refine hc1.mono ?_
          rintro e w1 ⟨rfl, rfl⟩
          clear hc1
          go_wp2_with fail
          refine hc2.mono ?_
          rintro e w1 ⟨rfl, rfl⟩
          clear hc2
          go_wp2_with (at_builtin; refine wpList_append_sep1 hh 1 rfl (by rfl) _ _ 44 rfl Try.underlying44 hi0 hz0 hz1 hz2 rfl (by rfl) _ _ (by rfl) (by simp) (by rfl) _ (by unfold maxLen; omega) (by omega) ?_)
          intro gg cg w2 h2
          have hfin := Lib.hid (show Sep F w w2 [slabR s S, intsAt 30 .u64 (.slice (some ⟨gg, 0, none⟩) (k + 1) cg) ((List.range (k + 1)).map fun i => S.wd (f + i))] from by
            rw [← HX.out, intsAt, List.map_append, List.length_append, List.length_map, List.length_range, List.map_map]
            exact h2)
          clear hh h2 hi0 hz0 hz1 hz2
          go_wp2
          go_roundw
          case rel => exact ⟨k + 1, by go_num, by omega, hfin.out, fun i hi => by
            rcases Nat.lt_or_ge i k with h8 | h8
            · exact HA.out i h8
            · rw [show i = k by omega]; exact HE.out⟩
          case measure => simp [RowKit.intOf]; omega
        · have hr2 : S.read ((to : Int) + (k : Int)) = (0, 5) := by
            unfold Slb.read
            rw [if_neg he2, hbad5.out _ (by omega) (by omega) he2]
          have hc2 := h.sRead 0 rfl _ hr2
          have hfin := Lib.hid (show er = 5 ∧ Sep F w wr [slabR s S'] from by
            have r := HR.out
            rw [if_neg (fun hh => he2 ((HALL.out.1 hh k hlt).2))] at r
            cases r
            exact ⟨rfl, Sep.left (Ps := [_]) h⟩)
          generalize S.wd (f + k) = x at *
          clear he he2 hr1 hr2 h
          go_wp2_with fail
          refine hc1.mono ?_
          rintro e w1 ⟨rfl, rfl⟩
          clear hc1
          go_wp2_with fail
          refine hc2.mono ?_
          rintro e w1 ⟨rfl, rfl⟩
          clear hc2
          go_wp2
          go_ret
          exact ⟨by rw [hfin.out.1]; rfl, hfin.out.2⟩
      · have hr1 : S.read ((f : Int) + (k : Int)) = (0, 5) := by
          unfold Slb.read
          rw [if_neg he, hbad5.out _ (by omega) (by omega) he]
        have hc1 := h.sRead 0 rfl _ hr1
        have hfin := Lib.hid (show er = 5 ∧ Sep F w wr [slabR s S'] from by
          have r := HR.out
          rw [if_neg (fun hh => he ((HALL.out.1 hh k hlt).1))] at r
          cases r
          exact ⟨rfl, Sep.left (Ps := [_]) h⟩)
        clear he hr1 h
        go_wp2_with fail
        refine hc1.mono ?_
        rintro e w1 ⟨rfl, rfl⟩
        clear hc1
        go_wp2
        go_ret
        exact ⟨by rw [hfin.out.1]; rfl, hfin.out.2⟩
    · obtain rfl : k = n := by omega
      obtain ⟨sl, cl, rfl⟩ := h.form 1 rfl
      have hh := h
      rw [intsAt, List.length_map, List.length_range] at hh
      rw [List.length_map, List.length_range]
      have hst := Lib.hid (show Sep F w wr [slabR s (S.mv to f 0), rowAt 30 1 (.slice sl k cl) k (((List.range k).map fun i => S.wd (f + i)).map (Value.int .u64))] from by rw [Slb.mv_zero]; exact hh)
      clear h hh
      go_wp2_with fail
      go_loopw [78] (fun ix wr => ∃ j : Nat, ix = .int .i64 j ∧ j ≤ k ∧ Sep F w wr [slabR s (S.mv to f j), rowAt 30 1 (.slice sl k cl) k (((List.range k).map fun i => S.wd (f + i)).map (Value.int .u64))]) (fun ix _ => k - (RowKit.intOf ix).toNat)
      case atStart => exact ⟨0, rfl, Nat.zero_le _, hst.out⟩
      case round =>
        obtain ⟨j, rfl, hj, h⟩ := hrel
        clear hst
        by_cases hlt2 : j < k
        · obtain ⟨g, rfl, c1, _⟩ := h.item 1 rfl (o := j) (x := .int .u64 (S.wd (f + j))) (by simp [hlt2])
          have hj' : (j : Int) < (k : Int) := by omega
          have hx0 := hXW.out (f + j)
          have hc := h.sWrite 0 rfl ((to : Int) + (j : Int)) (S.wd (f + j)) hx0.1 hx0.2 (Slb.mv_step S to f j (HA.out j hlt2).2)
          generalize S.wd (f + j) = x at *
          clear h hx0
          go_wp2_with fail
          refine hc.mono ?_
          rintro e w1 ⟨rfl, h1⟩
          have hfin := Lib.hid h1
          clear h1 hc c1
          go_wp2
          go_roundw
          case rel => exact ⟨j + 1, by go_num, by omega, hfin.out⟩
          case measure => simp [RowKit.intOf]; omega
        · obtain rfl : j = k := by omega
          have hfin := Lib.hid (show er = 0 ∧ Sep F w wr [slabR s S'] from by
            have r := HR.out
            rw [if_pos (HALL.out.2 HA.out)] at r
            cases r
            exact ⟨rfl, Sep.left (Ps := [_]) h⟩)
          clear h
          go_wp2
          go_ret
          exact ⟨by rw [hfin.out.1]; rfl, hfin.out.2⟩

theorem Sep.sMove (h : Sep F0 w0 w Ps) (i : Nat) {s : Nat} {S : Slb} (hi : Ps[i]? = some (slabR s S)) (to f n : Int) (t1 : to ≤ 9223372036854775807) (f1 : f ≤ 9223372036854775807) {er : Int} {S' : Slb} (r : S.move to f n = (er, S')) :
    Calls Try.prog 25 #[.pointer (some ⟨s, 0, none⟩), .int .i64 to, .int .i64 f, .int .i64 n] w fun e w' => e = .returned (.int .i64 er) ∧ Sep F0 w0 w' (Ps.set i (slabR s S')) := by
  cases hbad : Slb.moveBad to f n with
  | true =>
    unfold Slb.move at r
    rw [hbad] at r
    cases r
    exact sMove_err h i hi to f n t1 f1 hbad
  | false =>
    simp only [Slb.moveBad, decide_eq_false_iff_not] at hbad
    obtain ⟨to, rfl⟩ := Int.eq_ofNat_of_zero_le (show 0 ≤ to by omega)
    obtain ⟨f, rfl⟩ := Int.eq_ofNat_of_zero_le (show 0 ≤ f by omega)
    obtain ⟨n, rfl⟩ := Int.eq_ofNat_of_zero_le (show 0 ≤ n by omega)
    exact h.lift i hi fun F hF => smove_main hF to f n (by omega) (by omega) r
end Go.Proofs.Ytnkdopaajpbjfaa
