/- slab.Slab: Release, Move, walked. Conditions: the arena is as said; arguments are 64-bit. -/
import Derived.Test.YtnkdopaajpbjfaaSlabClaim
import Derived.Lib.MinMax
namespace Go.Proofs.Ytnkdopaajpbjfaa
open Go Go.RowKit

variable {F0 : Nat → Prop} {w0 w : World} {Ps : List Res}


theorem sRelease_err (h : Sep F0 w0 w Ps) (i : Nat) {s : Nat} {S : Slb} (hi : Ps[i]? = some (slabR s S)) (f n : Int) (hn0 : -9223372036854775808 ≤ n) (hbad : n < 1 ∨ 4096 < n ∨ f < 0 ∨ 1048576 - n < f) :
    Calls Try.prog 16 #[.pointer (some ⟨s, 0, none⟩), .int .i64 f, .int .i64 n] w fun e w' => e = .returned (.int .i64 2) ∧ Sep F0 w0 w' (Ps.set i (slabR s S)) := by
  obtain ⟨b, p, hM, hS, back⟩ := h.sGet i hi
  have hfin := Lib.hid (back w b p S hM hS (Mod.refl _ w) (fun k hk => .inl hk))
  have hN := hM.there
  clear h hi hM hS back
  by_cases g1 : n < 1
  · have d1 : decide (n < 1) = true := ltT g1
    clear hbad g1
    go_enter Try.func16, Try.ntmps16
    go_wp2_with ((with_reducible refine hN.mono ?_); rintro e w' ⟨rfl, rfl⟩)
    go_ret
    exact ⟨rfl, hfin.out⟩
  have d1 : decide (n < 1) = false := ltF (by omega)
  by_cases g2 : 4096 < n
  · have d2 : decide (4096 < n) = true := ltT g2
    clear hbad g1 g2
    go_enter Try.func16, Try.ntmps16
    go_wp2_with ((with_reducible refine hN.mono ?_); rintro e w' ⟨rfl, rfl⟩)
    go_ret
    exact ⟨rfl, hfin.out⟩
  have d2 : decide (4096 < n) = false := ltF (by omega)
  by_cases g3 : f < 0
  · have d3 : decide (f < 0) = true := ltT g3
    clear hbad g1 g2 g3
    go_enter Try.func16, Try.ntmps16
    go_wp2_with ((with_reducible refine hN.mono ?_); rintro e w' ⟨rfl, rfl⟩)
    go_ret
    exact ⟨rfl, hfin.out⟩
  have d3 : decide (f < 0) = false := ltF (by omega)
  have d4 : decide (1048575 - n + 1 < f) = true := ltT (by omega)
  have n0 : 1 ≤ n := by omega
  have n1 : n ≤ 4096 := by omega
  clear hbad g1 g2 g3
  go_enter Try.func16, Try.ntmps16
  go_wp2_with ((with_reducible refine hN.mono ?_); rintro e w' ⟨rfl, rfl⟩)
  go_ret
  exact ⟨rfl, hfin.out⟩

set_option maxRecDepth 100000 in
set_option maxHeartbeats 1000000 in
theorem sRelease_main (h : Sep F0 w0 w Ps) (i : Nat) {s : Nat} {S : Slb} (hi : Ps[i]? = some (slabR s S)) (f n : Nat) (h1 : 1 ≤ n) (h2 : n ≤ 4096) (h3 : f + n ≤ 1048576) {er : Int} {S' : Slb} (r : S.release f n = (er, S')) :
    Calls Try.prog 16 #[.pointer (some ⟨s, 0, none⟩), .int .i64 f, .int .i64 n] w fun e w' => e = .returned (.int .i64 er) ∧ Sep F0 w0 w' (Ps.set i (slabR s S')) := by
  obtain ⟨b, p, hM, hS, back⟩ := h.sGet i hi
  have hok := Slb.release_ok hS f n
  rw [r] at hok
  unfold Slb.release at r
  rw [if_neg (by omega)] at r
  have hN := hM.there
  have c1 := hM.c1
  have d1 : decide ((n : Int) < 1) = false := ltF (by omega)
  have d2 : decide ((4096 : Int) < (n : Int)) = false := ltF (by omega)
  have d3 : decide ((f : Int) < 0) = false := ltF (by omega)
  have d4 : decide (1048575 - (n : Int) + 1 < (f : Int)) = false := ltF (by omega)
  have HALL := Lib.hid (show (List.range n).all (fun k => S.has (f + k)) = true ↔ ∀ k, k < n → f + k ∈ S.pg from by
    rw [List.all_eq_true]
    constructor
    · intro h k hk
      have := h k (List.mem_range.2 hk)
      rw [← Int.natCast_add] at this
      exact Slb.has_nat.1 this
    · intro h k hk
      rw [← Int.natCast_add]
      exact Slb.has_nat.2 (h k (List.mem_range.1 hk)))
  rw [Int.toNat_natCast, Int.toNat_natCast] at r
  have H := Lib.hid (And.intro hM (And.intro back (And.intro hS (And.intro hok r))))
  clear h hi hM hS back hok r
  go_enter Try.func16, Try.ntmps16
  go_wp2_with ((with_reducible refine hN.mono ?_); rintro e w' ⟨rfl, rfl⟩)
  go_loop [31] (fun ix => ∃ k : Nat, ix = .int .i64 k ∧ k ≤ n ∧ ∀ i, i < k → f + i ∈ S.pg) (fun ix => n - (RowKit.intOf ix).toNat)
  case atStart => exact ⟨0, rfl, Nat.zero_le _, by intro i hi; omega⟩
  case round =>
    obtain ⟨k, rfl, hk, hall⟩ := hrel
    have HA := Lib.hid hall
    clear hall
    by_cases hlt : k < n
    · by_cases hin : f + k ∈ S.pg
      · have hl := H.out.1.look hin
        rw [Int.natCast_add] at hl
        have HI := Lib.hid hin
        clear hin
        go_wp2
        go_round
        case rel => exact ⟨k + 1, by go_num, by omega, fun i hi => by
          rcases Nat.lt_or_ge i k with h8 | h8
          · exact HA.out i h8
          · rw [show i = k by omega]; exact HI.out⟩
        case measure => simp [RowKit.intOf]; omega
      · have hl := H.out.1.miss (n := (f : Int) + (k : Int)) (fun j hj e => hin (by rw [show f + k = j by omega]; exact hj)) (by omega) (by omega)
        have hfin := Lib.hid (show er = 5 ∧ Sep F0 w0 w (Ps.set i (slabR s S')) from by
          obtain ⟨hM, back, hS, hok, r⟩ := H.out
          rw [if_neg (fun h => hin (HALL.out.1 h k hlt))] at r
          cases r
          exact ⟨rfl, back w b p S hM hS (Mod.refl _ w) (fun k hk => .inl hk)⟩)
        clear hin
        go_wp2
        go_ret
        exact ⟨by rw [hfin.out.1]; rfl, hfin.out.2⟩
    · obtain rfl : k = n := by omega
      have hst := Lib.hid (show SlabM w s b S.quota (S.pg.filter fun x => decide (x < f) || decide (f + 0 ≤ x)) p S.wd from by
        have e : (S.pg.filter fun x => decide (x < f) || decide (f + 0 ≤ x)) = S.pg := filter_all fun x _ => by
          by_cases hx : x < f
          · simp [hx]
          · simp [hx]; omega
        rw [e]
        exact H.out.1)
      go_wp2_with fail
      go_loopw [45] (fun ix wr => ∃ j : Nat, ix = .int .i64 j ∧ j ≤ k ∧ SlabM wr s b S.quota (S.pg.filter fun x => decide (x < f) || decide (f + j ≤ x)) p S.wd ∧ Mod (SFoot s b S.pg p) w wr) (fun ix _ => k - (RowKit.intOf ix).toNat)
      case atStart => exact ⟨0, rfl, Nat.zero_le _, hst.out, Mod.refl _ w⟩
      case round =>
        obtain ⟨j, rfl, hj, hm, hmod⟩ := hrel
        clear hst
        have c1 := hm.c1
        by_cases hlt2 : j < k
        · have HM := Lib.hid hmod
          clear hmod
          go_wp2_with (at_delete; refine wpList_dropPage hm (by rfl) _ _ (by rfl) (by rfl) (f + j) ((f : Int) + (j : Int)) (by rfl) (by omega) (by omega) ?_)
          intro w2 hm2 hmod2
          have hfin := Lib.hid (show SlabM w2 s b S.quota (S.pg.filter fun x => decide (x < f) || decide (f + (j + 1) ≤ x)) p S.wd ∧ Mod (SFoot s b S.pg p) w w2 from by
            refine ⟨?_, HM.out.trans (hmod2.mono fun x _ hx => .inl (.inr (.inl hx)))⟩
            try rw [List.filter_filter] at hm2
            have e : (S.pg.filter fun x => (x != f + j) && (decide (x < f) || decide (f + j ≤ x))) = (S.pg.filter fun x => decide (x < f) || decide (f + (j + 1) ≤ x)) := by
              apply List.filter_congr
              intro x _
              by_cases hx : x < f
              · have : x ≠ f + j := by omega
                simp [hx, this]
              · by_cases hx2 : x = f + j
                · have : ¬ f + (j + 1) ≤ x := by omega
                  simp [hx, hx2]
                · by_cases hx3 : f + j ≤ x
                  · have : f + (j + 1) ≤ x := by omega
                    simp [hx2, hx3, this]
                  · have : ¬ f + (j + 1) ≤ x := by omega
                    simp [hx, hx3, this]
            rw [← e]
            exact hm2)
          clear hm hm2 hmod2 c1
          go_wp2
          go_roundw
          case rel => exact ⟨j + 1, by go_num, by omega, hfin.out⟩
          case measure => simp [RowKit.intOf]; omega
        · obtain rfl : j = k := by omega
          have hfin := Lib.hid (show er = 0 ∧ Sep F0 w0 wr (Ps.set i (slabR s S')) from by
            obtain ⟨hM, back, hS, hok, r⟩ := H.out
            rw [if_pos (HALL.out.2 HA.out)] at r
            cases r
            refine ⟨rfl, back wr b p _ (hm.words_eq fun x hx y hy => ?_) hok hmod (fun x hx => ?_)⟩
            · have := (Slb.mem_less.1 hx).2
              dsimp only
              rw [if_neg]
              rw [show (64 * x + y) / 64 = x by omega]
              exact this
            · rcases hx with rfl | rfl | ⟨y, hy, rfl⟩
              · exact .inl (.inl rfl)
              · exact .inl (.inr (.inl rfl))
              · exact .inl (.inr (.inr ⟨y, (Slb.mem_less.1 hy).1, rfl⟩)))
          clear hm hmod
          go_wp2
          go_ret
          exact ⟨by rw [hfin.out.1]; rfl, hfin.out.2⟩

theorem Sep.sRelease (h : Sep F0 w0 w Ps) (i : Nat) {s : Nat} {S : Slb} (hi : Ps[i]? = some (slabR s S)) (f n : Int) (hn0 : -9223372036854775808 ≤ n) {er : Int} {S' : Slb} (r : S.release f n = (er, S')) :
    Calls Try.prog 16 #[.pointer (some ⟨s, 0, none⟩), .int .i64 f, .int .i64 n] w fun e w' => e = .returned (.int .i64 er) ∧ Sep F0 w0 w' (Ps.set i (slabR s S')) := by
  by_cases hbad : n < 1 ∨ 4096 < n ∨ f < 0 ∨ 1048576 - n < f
  · unfold Slb.release at r
    rw [if_pos hbad] at r
    cases r
    exact sRelease_err h i hi f n hn0 hbad
  · obtain ⟨f, rfl⟩ := Int.eq_ofNat_of_zero_le (show 0 ≤ f by omega)
    obtain ⟨n, rfl⟩ := Int.eq_ofNat_of_zero_le (show 0 ≤ n by omega)
    exact sRelease_main h i hi f n (by omega) (by omega) (by omega) r

theorem Sep.sGrant (h : Sep F0 w0 w Ps) (i : Nat) {s : Nat} {S : Slb} (hi : Ps[i]? = some (slabR s S)) (n : Int) {f er : Int} {S' : Slb} (r : S.grant n = (f, er, S')) :
    Calls Try.prog 14 #[.pointer (some ⟨s, 0, none⟩), .int .i64 n] w fun e w' => e = .returned (.tuple #[.int .i64 f, .int .i64 er]) ∧ Sep F0 w0 w' (Ps.set i (slabR s S')) := by
  by_cases hbad : n < 1 ∨ 4096 < n ∨ S.quota < (S.pg.length + n) * 64
  · exact sGrant_err h i hi n r hbad
  · obtain ⟨n, rfl⟩ := Int.eq_ofNat_of_zero_le (show 0 ≤ n by omega)
    unfold Slb.grant at r
    rw [if_neg (by omega), if_neg (by omega), Int.toNat_natCast] at r
    cases r
    exact sGrant_ok h i hi n (by omega) (by omega) (by omega)
end Go.Proofs.Ytnkdopaajpbjfaa
