/- Free, Last, Count, Full of the reference of layer 2, walked. Condition: words are below 2^64. -/
import Derived.Test.YtphjonpokhmekaaDoorBitsRef
namespace Go.Proofs.YtphjonpokhmekaaDoor
open Go Go.RowKit

theorem cl_nat (j : Nat) (h : j ≤ 64) : Bt.cl (j : Int) = j := by unfold Bt.cl; omega
theorem lt_cl {j : Nat} {n : Int} : j < Bt.cl n ↔ (j : Int) < n ∧ j < 64 := by unfold Bt.cl; omega
theorem has_nat {N j : Nat} (h : j < 64) : Bt.has N (j : Int) = N.testBit j := by unfold Bt.has; simp; omega

theorem last_uniq (N : Nat) (n : Int) (k : Nat) (h1 : k < Bt.cl n) (h2 : N.testBit k = true) (h3 : ∀ i, k < i → i < Bt.cl n → N.testBit i = false) : Bt.last N n = k := by
  rcases Bt.last_spec N n with ⟨_, h⟩ | ⟨m, e, hm, hb, ha⟩
  · rw [h k h1] at h2; cases h2
  · rw [e]
    rcases Nat.lt_trichotomy k m with h | h | h
    · rw [h3 m h hm] at hb; cases hb
    · rw [h]
    · rw [ha k h h1] at h2; cases h2
theorem last_none (N : Nat) (n : Int) (h : ∀ i, i < Bt.cl n → N.testBit i = false) : Bt.last N n = -1 := by
  rcases Bt.last_spec N n with ⟨e, _⟩ | ⟨m, _, hm, hb, _⟩
  · exact e
  · rw [h m hm] at hb; cases hb
theorem last_succ (N j : Nat) (hj : j < 64) : Bt.last N ((j + 1 : Nat) : Int) = if N.testBit j then (j : Int) else Bt.last N j := by
  have c1 := cl_nat (j + 1) (by omega)
  have c0 := cl_nat j (by omega)
  cases hb : N.testBit j with
  | true =>
    rw [if_pos rfl]
    exact last_uniq N _ j (by omega) hb (fun i h1 h2 => by omega)
  | false =>
    rw [if_neg (by simp)]
    rcases Bt.last_spec N j with ⟨e, h⟩ | ⟨m, e, hm, hbm, ha⟩
    · rw [e]
      refine last_none N _ fun i hi => ?_
      by_cases hij : i = j
      · rw [hij]; exact hb
      · exact h i (by omega)
    · rw [e]
      refine last_uniq N _ m (by omega) hbm fun i h1 h2 => ?_
      by_cases hij : i = j
      · rw [hij]; exact hb
      · exact ha i h1 (by omega)
theorem last_cl (N : Nat) (n : Int) : Bt.last N n = Bt.last N (Bt.cl n : Nat) := by
  unfold Bt.last Bt.cut; rw [cl_nat _ (Bt.cl_le n)]
theorem last_zero (N : Nat) : Bt.last N ((0 : Nat) : Int) = -1 := last_none N _ fun i hi => by rw [cl_nat 0 (by omega)] at hi; omega
theorem last_range (N : Nat) (n : Int) : -1 ≤ Bt.last N n ∧ Bt.last N n ≤ 63 := by
  have := Bt.cl_le n
  rcases Bt.last_spec N n with ⟨e, _⟩ | ⟨m, e, hm, _⟩ <;> omega

theorem rfree_call (N : Nat) (hN : N < 18446744073709551616) (n : Int) (w : World) :
    Calls Tryd.prog 17 #[.int .u64 N, .int .i64 n] w fun e w' => e = .returned (.int .i64 (Bt.free N n)) ∧ w = w' := by
  have hcl := Bt.cl_le n
  have hH : Hid (∀ j : Nat, j < 64 → Calls Tryd.prog 14 #[.int .u64 N, .int .i64 j] w fun e w' => e = .returned (.bool (N.testBit j)) ∧ w = w') := by
    intro j hj; have := rhas_call N hN j w; rw [has_nat hj] at this; exact this
  rcases Bt.free_spec hN n with ⟨e, hall⟩ | ⟨k, e, hk, hb, hall⟩
  · rw [e]
    have HA := Lib.hid hall
    clear e hall hN
    obtain ⟨c, hc⟩ : ∃ c, Bt.cl n = c := ⟨_, rfl⟩
    rw [hc] at HA hcl
    have HC := Lib.hid hc
    clear hc
    go_enter Tryd.func17, Tryd.ntmps17
    go_wp2_with fail
    go_loop [5] (fun i => ∃ j : Nat, j ≤ c ∧ i = .int .i64 j) (fun i => c - (intOf i).toNat)
    case atStart => exact ⟨0, Nat.zero_le _, rfl⟩
    case round =>
      obtain ⟨j, hj, rfl⟩ := hrel
      by_cases hlt : j < c
      · obtain ⟨l1, l2⟩ := lt_cl.1 (show j < Bt.cl n by rw [HC.out]; exact hlt)
        have hh := hH.out j l2
        rw [HA.out j hlt] at hh
        go_wp2_with ((with_reducible refine hh.mono ?_); rintro e w' ⟨rfl, rfl⟩)
        go_round
        case rel => exact ⟨j + 1, hlt, by go_num⟩
        case measure => simp [intOf]; omega
      · have hc2 : (n ≤ (j : Int)) ∨ ((j : Int) < n ∧ 64 ≤ j) := by
          have := mt lt_cl.2 (show ¬ j < Bt.cl n by rw [HC.out]; exact hlt)
          omega
        clear HA hH
        rcases hc2 with h | ⟨h, h'⟩
        all_goals
          go_wp2
          go_ret
          exact ⟨rfl, rfl⟩
  · rw [e]
    obtain ⟨l1, l2⟩ := lt_cl.1 hk
    have HA := Lib.hid (And.intro hall hb)
    clear e hall hb hN hk
    go_enter Tryd.func17, Tryd.ntmps17
    go_wp2_with fail
    go_loop [5] (fun i => ∃ j : Nat, j ≤ k ∧ i = .int .i64 j) (fun i => k - (intOf i).toNat)
    case atStart => exact ⟨0, Nat.zero_le _, rfl⟩
    case round =>
      obtain ⟨j, hj, rfl⟩ := hrel
      by_cases hlt : j < k
      · have hh := hH.out j (by omega)
        rw [HA.out.1 j hlt] at hh
        go_wp2_with ((with_reducible refine hh.mono ?_); rintro e w' ⟨rfl, rfl⟩)
        go_round
        case rel => exact ⟨j + 1, hlt, by go_num⟩
        case measure => simp [intOf]; omega
      · have hjk : j = k := by omega
        subst hjk
        have hh := hH.out j (by omega)
        rw [HA.out.2] at hh
        go_wp2_with ((with_reducible refine hh.mono ?_); rintro e w' ⟨rfl, rfl⟩)
        go_ret
        exact ⟨rfl, rfl⟩

theorem rlast_call (N : Nat) (hN : N < 18446744073709551616) (n : Int) (w : World) :
    Calls Tryd.prog 19 #[.int .u64 N, .int .i64 n] w fun e w' => e = .returned (.int .i64 (Bt.last N n)) ∧ w = w' := by
  have hcl := Bt.cl_le n
  have hH : Hid (∀ j : Nat, j < 64 → Calls Tryd.prog 14 #[.int .u64 N, .int .i64 j] w fun e w' => e = .returned (.bool (N.testBit j)) ∧ w = w') := by
    intro j hj; have := rhas_call N hN j w; rw [has_nat hj] at this; exact this
  rw [last_cl]
  obtain ⟨c, hc⟩ : ∃ c, Bt.cl n = c := ⟨_, rfl⟩
  rw [hc] at hcl ⊢
  have HC := Lib.hid hc
  clear hc hN
  go_enter Tryd.func19, Tryd.ntmps19
  go_wp2_with fail
  go_loop [5, 6] (fun l i => ∃ j : Nat, j ≤ c ∧ i = .int .i64 j ∧ l = .int .i64 (Bt.last N j)) (fun _ i => c - (intOf i).toNat)
  case atStart => exact ⟨0, Nat.zero_le _, rfl, by rw [last_zero]⟩
  case round =>
    obtain ⟨j, hj, rfl, rfl⟩ := hrel
    by_cases hlt : j < c
    · obtain ⟨l1, l2⟩ := lt_cl.1 (show j < Bt.cl n by rw [HC.out]; exact hlt)
      have hh := hH.out j l2
      have HS := Lib.hid (last_succ N j l2)
      cases hb : N.testBit j with
      | true =>
        rw [hb] at hh
        have HB := Lib.hid hb
        clear hb
        go_wp2_with ((with_reducible refine hh.mono ?_); rintro e w' ⟨rfl, rfl⟩)
        go_round
        case rel => exact ⟨j + 1, hlt, by go_num, by rw [HS.out, HB.out]; rfl⟩
        case measure => simp [intOf]; omega
      | false =>
        rw [hb] at hh
        have HB := Lib.hid hb
        clear hb
        go_wp2_with ((with_reducible refine hh.mono ?_); rintro e w' ⟨rfl, rfl⟩)
        go_round
        case rel => exact ⟨j + 1, hlt, by go_num, by rw [HS.out, HB.out]; rfl⟩
        case measure => simp [intOf]; omega
    · have hc2 : (n ≤ (j : Int)) ∨ ((j : Int) < n ∧ 64 ≤ j) := by
        have := mt lt_cl.2 (show ¬ j < Bt.cl n by rw [HC.out]; exact hlt)
        omega
      have hjc : j = c := by omega
      subst hjc
      clear hH
      rcases hc2 with h | ⟨h, h'⟩
      all_goals
        go_wp2
        go_ret
        exact ⟨rfl, rfl⟩

theorem rcount_call (N : Nat) (hN : N < 18446744073709551616) (n : Int) (w : World) :
    Calls Tryd.prog 21 #[.int .u64 N, .int .i64 n] w fun e w' => e = .returned (.int .i64 (Bt.count N n)) ∧ w = w' := by
  have hcl := Bt.cl_le n
  have hH : Hid (∀ j : Nat, j < 64 → Calls Tryd.prog 14 #[.int .u64 N, .int .i64 j] w fun e w' => e = .returned (.bool (N.testBit j)) ∧ w = w') := by
    intro j hj; have := rhas_call N hN j w; rw [has_nat hj] at this; exact this
  rw [Bt.count_eq]
  obtain ⟨c, hc⟩ : ∃ c, Bt.cl n = c := ⟨_, rfl⟩
  rw [hc] at hcl ⊢
  have HC := Lib.hid hc
  clear hc hN
  go_enter Tryd.func21, Tryd.ntmps21
  go_wp2_with fail
  go_loop [5, 6] (fun l i => ∃ j : Nat, j ≤ c ∧ i = .int .i64 j ∧ l = .int .i64 (Bt.cnt N j : Nat)) (fun _ i => c - (intOf i).toNat)
  case atStart => exact ⟨0, Nat.zero_le _, rfl, rfl⟩
  case round =>
    obtain ⟨j, hj, rfl, rfl⟩ := hrel
    have hle := Bt.cnt_le N j
    by_cases hlt : j < c
    · obtain ⟨l1, l2⟩ := lt_cl.1 (show j < Bt.cl n by rw [HC.out]; exact hlt)
      have hh := hH.out j l2
      have HS := Lib.hid (show Bt.cnt N (j + 1) = Bt.cnt N j + (if N.testBit j then 1 else 0) from rfl)
      generalize Bt.cnt N j = q at *
      cases hb : N.testBit j with
      | true =>
        rw [hb] at hh
        have HB := Lib.hid hb
        clear hb
        go_wp2_with ((with_reducible refine hh.mono ?_); rintro e w' ⟨rfl, rfl⟩)
        go_round
        case rel => exact ⟨j + 1, hlt, by go_num, by rw [HS.out, HB.out]; rfl⟩
        case measure => simp [intOf]; omega
      | false =>
        rw [hb] at hh
        have HB := Lib.hid hb
        clear hb
        go_wp2_with ((with_reducible refine hh.mono ?_); rintro e w' ⟨rfl, rfl⟩)
        go_round
        case rel => exact ⟨j + 1, hlt, by go_num, by rw [HS.out, HB.out]; rfl⟩
        case measure => simp [intOf]; omega
    · have hc2 : (n ≤ (j : Int)) ∨ ((j : Int) < n ∧ 64 ≤ j) := by
        have := mt lt_cl.2 (show ¬ j < Bt.cl n by rw [HC.out]; exact hlt)
        omega
      have hjc : j = c := by omega
      subst hjc
      clear hH
      rcases hc2 with h | ⟨h, h'⟩
      all_goals
        go_wp2
        go_ret
        exact ⟨rfl, rfl⟩

theorem rfull_call (n : Int) (w : World) :
    Calls Tryd.prog 23 #[.int .i64 n] w fun e w' => e = .returned (.int .u64 (Bt.full n : Nat)) ∧ w = w' := by
  have hcl := Bt.cl_le n
  have hH : Hid (∀ j : Nat, j < 64 → Calls Tryd.prog 24 #[.int .i64 j] w fun e w' => e = .returned (.int .u64 (2 ^ j : Nat)) ∧ w = w') := fun j hj => one_call j hj w
  obtain ⟨c, hc⟩ : ∃ c, Bt.cl n = c := ⟨_, rfl⟩
  obtain ⟨F, hF⟩ : ∃ F, Bt.full n = F := ⟨_, rfl⟩
  have HF : Hid (2 ^ c - 1 = F) := by show _ = _; rw [← hF, ← hc]; rfl
  rw [hF]
  rw [hc] at hcl
  have HC := Lib.hid hc
  clear hc hF
  go_enter Tryd.func23, Tryd.ntmps23
  go_wp2_with fail
  go_loop [3, 4] (fun l i => ∃ j : Nat, j ≤ c ∧ i = .int .i64 j ∧ l = .int .u64 (2 ^ j - 1 : Nat)) (fun _ i => c - (intOf i).toNat)
  case atStart => exact ⟨0, Nat.zero_le _, rfl, rfl⟩
  case round =>
    obtain ⟨j, hj, rfl, rfl⟩ := hrel
    by_cases hlt : j < c
    · obtain ⟨l1, l2⟩ := lt_cl.1 (show j < Bt.cl n by rw [HC.out]; exact hlt)
      have hh := hH.out j l2
      have hp := Bt.pow_le (j + 1) (by omega)
      have hpos := Nat.two_pow_pos j
      have hs : 2 ^ (j + 1) = 2 ^ j * 2 := Nat.pow_succ 2 j
      have HS := Lib.hid (show 2 ^ (j + 1) - 1 = (2 ^ j - 1) + 2 ^ j by omega)
      have hq : (2 ^ j - 1) + 2 ^ j ≤ 18446744073709551615 := by omega
      clear hs hp
      generalize 2 ^ j - 1 = q at *
      generalize 2 ^ j = p at *
      go_wp2_with ((with_reducible refine hh.mono ?_); rintro e w' ⟨rfl, rfl⟩)
      go_round
      case rel => exact ⟨j + 1, hlt, by go_num, by rw [HS.out]; go_num⟩
      case measure => simp [intOf]; omega
    · have hc2 : (n ≤ (j : Int)) ∨ ((j : Int) < n ∧ 64 ≤ j) := by
        have := mt lt_cl.2 (show ¬ j < Bt.cl n by rw [HC.out]; exact hlt)
        omega
      have hjc : j = c := by omega
      subst hjc
      rw [HF.out]
      clear hH
      rcases hc2 with h | ⟨h, h'⟩
      all_goals
        go_wp2
        go_ret
        exact ⟨rfl, rfl⟩
end Go.Proofs.YtphjonpokhmekaaDoor
