/- BitsOther, walked. Condition: the table of math/bits holds what its initialiser lays. -/
import Derived.Test.YtphjonpokhmekaaDoorBitsWalk2
import Derived.OpenShut
namespace Go.Proofs.YtphjonpokhmekaaDoor
open Go Go.RowKit

theorem has_set_other {N : Nat} {k : Nat} (hk : k < 64) (o : Int) (ho : (k : Int) ≠ o) : Bt.has (Bt.set N k) o = Bt.has N o := by
  unfold Bt.has
  by_cases h : 0 ≤ o ∧ o < 64
  · obtain ⟨m, rfl⟩ := Int.eq_ofNat_of_zero_le h.1
    rw [Int.toNat_natCast, Bt.set_testBit k hk]
    have : ¬ m = k := by omega
    simp [this]
  · have : (decide (0 ≤ o) && decide (o < 64)) = false := by simp; omega
    rw [this]; rfl
theorem has_clear_other {N : Nat} (hN : N < 18446744073709551616) {k : Nat} (hk : k < 64) (o : Int) (ho : (k : Int) ≠ o) : Bt.has (Bt.clear N k) o = Bt.has N o := by
  unfold Bt.has
  by_cases h : 0 ≤ o ∧ o < 64
  · obtain ⟨m, rfl⟩ := Int.eq_ofNat_of_zero_le h.1
    rw [Int.toNat_natCast, Bt.clear_testBit k hk m hN]
    have : ¬ m = k := by omega
    simp [this]
  · have : (decide (0 ≤ o) && decide (o < 64)) = false := by simp; omega
    rw [this]; rfl
theorem has_set {N : Nat} {k : Nat} (hk : k < 64) : Bt.has (Bt.set N k) (k : Int) = true := by
  unfold Bt.has; rw [Int.toNat_natCast, Bt.set_testBit k hk]; simp; omega
theorem has_clear {N : Nat} (hN : N < 18446744073709551616) {k : Nat} (hk : k < 64) : Bt.has (Bt.clear N k) (k : Int) = false := by
  unfold Bt.has; rw [Int.toNat_natCast, Bt.clear_testBit k hk k hN]; simp

theorem bitsOther_nat (N : Nat) (hN : N < 18446744073709551616) (k o : Int) (w : World) (hT : Tab64 w) :
    Calls Tryd.prog 4 #[.int .u64 N, .int .i64 k, .int .i64 o] w fun e w' => e = .returned (.bool true) ∧ Below w.heap.size w w' := by
  have ha := (awake_call w hT).mono (R' := fun e w' => e = .returned (.bool true) ∧ Below w.heap.size w w') fun e w' ⟨he, hm⟩ => ⟨he, hm.below _ (Nat.le_refl _) (fun _ _ x => x)⟩
  have h1 := set_call N hN k w
  have h2 := clear_call N hN k w
  rcases okK_cases k with ⟨n, rfl, hn⟩ | ⟨_, he⟩ | ⟨_, _, he⟩
  · have e0 : Bt.err (n : Int) = 0 := by unfold Bt.err; rw [okK_nat hn]; rfl
    have h3 := has_call (Bt.set N n) (Bt.set_lt hN _) n w
    have h4 := has_call (Bt.clear N n) (Bt.clear_lt hN _) n w
    have h5 := has_call (Bt.set N n) (Bt.set_lt hN _) o w
    have h6 := has_call N hN o w
    have h7 := has_call (Bt.clear N n) (Bt.clear_lt hN _) o w
    rw [has_set hn] at h3
    rw [has_clear hN hn] at h4
    rw [e0] at h1 h2
    by_cases ho : (n : Int) = o
    · have hb : ((n : Int) == o) = true := beqT ho
      clear h5 h6 h7 e0 ho hN hT
      generalize Bt.set N n = a at *
      generalize Bt.clear N n = b at *
      go_enter Tryd.func4, Tryd.ntmps4
      go_wp2_with fail
      refine h1.mono ?_
      rintro e w' ⟨rfl, rfl⟩
      go_wp2_with fail
      refine h2.mono ?_
      rintro e w' ⟨rfl, rfl⟩
      go_wp2_with fail
      refine h3.mono ?_
      rintro e w' ⟨rfl, rfl⟩
      go_wp2_with fail
      refine h4.mono ?_
      rintro e w' ⟨rfl, rfl⟩
      go_wp2_with ((with_reducible refine ha.mono ?_); rintro e w' ⟨rfl, hb⟩)
      go_ret
      exact ⟨rfl, hb⟩
    · have hb : ((n : Int) == o) = false := beqF ho
      rw [has_set_other hn o ho] at h5
      rw [has_clear_other hN hn o ho] at h7
      generalize Bt.has N o = t at *
      clear e0 ho hN hT
      generalize Bt.set N n = a at *
      generalize Bt.clear N n = b at *
      go_enter Tryd.func4, Tryd.ntmps4
      go_wp2_with fail
      refine h1.mono ?_
      rintro e w' ⟨rfl, rfl⟩
      go_wp2_with fail
      refine h2.mono ?_
      rintro e w' ⟨rfl, rfl⟩
      go_wp2_with fail
      refine h3.mono ?_
      rintro e w' ⟨rfl, rfl⟩
      go_wp2_with fail
      refine h4.mono ?_
      rintro e w' ⟨rfl, rfl⟩
      clear h1 h2 h3 h4
      go_wp2_with fail
      refine h5.mono ?_
      rintro e w' ⟨rfl, rfl⟩
      go_wp2_with fail
      refine h6.mono ?_
      rintro e w' ⟨rfl, rfl⟩
      go_wp2_with fail
      refine h7.mono ?_
      rintro e w' ⟨rfl, rfl⟩
      go_wp2_with fail
      refine h6.mono ?_
      rintro e w' ⟨rfl, rfl⟩
      go_wp2_with ((with_reducible refine ha.mono ?_); rintro e w' ⟨rfl, hb⟩)
      go_ret
      exact ⟨rfl, hb⟩
  all_goals
    have e0 : Bt.err k = 2 := by unfold Bt.err; rw [he]; rfl
    rw [e0] at h1 h2
    clear e0 hN hT
    generalize Bt.set N k = a at *
    generalize Bt.clear N k = b at *
    go_enter Tryd.func4, Tryd.ntmps4
    go_wp2_with fail
    refine h1.mono ?_
    rintro e w' ⟨rfl, rfl⟩
    go_wp2_with fail
    refine h2.mono ?_
    rintro e w' ⟨rfl, rfl⟩
    go_wp2_with ((with_reducible refine ha.mono ?_); rintro e w' ⟨rfl, hb⟩)
    go_ret
    exact ⟨rfl, hb⟩

theorem bitsOther_walk (a0 k o : Int) (w : World) (w0 : (Lit.int .u64 a0).wf = true) (_w1 : (Lit.int .i64 k).wf = true) (_w2 : (Lit.int .i64 o).wf = true) (hT : Tab64 w) :
    Calls Tryd.prog 4 #[.int .u64 a0, .int .i64 k, .int .i64 o] w fun e w' => e = .returned (.bool true) ∧ Below w.heap.size w w' := by
  have hb := bounds_u64 w0
  obtain ⟨N, rfl⟩ := Int.eq_ofNat_of_zero_le hb.1
  exact bitsOther_nat N (by omega) k o w hT
end Go.Proofs.YtphjonpokhmekaaDoor
