/- What the reference's functions of layer 2 compute, walked. Condition: words are below 2^64. -/
import Derived.Test.YtphjonpokhmekaaDoorBitsWalk2
namespace Go.Proofs.YtphjonpokhmekaaDoor
open Go Go.RowKit

theorem or_disj : ∀ (n a b : Nat), a < 2 ^ n → a &&& b = 0 → a ||| b = a + b := by
  intro n
  induction n with
  | zero => intro a b h _; have : a = 0 := by simpa using h
            subst this; simp
  | succ n ih =>
    intro a b h h0
    have h1 := ih (a / 2) (b / 2) (by rw [Nat.pow_succ] at h; omega) (by rw [← Nat.and_div_two, h0])
    rw [← Nat.or_div_two] at h1
    have h2 : (a ||| b) % 2 = (a % 2) ||| (b % 2) := Nat.or_mod_two_pow (n := 1)
    have h3 : (a % 2) &&& (b % 2) = 0 := by
      have : (a &&& b) % 2 = a % 2 &&& b % 2 := Nat.and_mod_two_pow (n := 1)
      rw [← this, h0]
    have ha : a % 2 = 0 ∨ a % 2 = 1 := by omega
    have hb : b % 2 = 0 ∨ b % 2 = 1 := by omega
    rcases ha with ha | ha <;> rcases hb with hb | hb <;> rw [ha, hb] at h2 h3
    · have h4 : (a ||| b) % 2 = 0 := h2
      omega
    · have h4 : (a ||| b) % 2 = 1 := h2
      omega
    · have h4 : (a ||| b) % 2 = 1 := h2
      omega
    · exact absurd h3 (by decide)

theorem set_add {N k : Nat} (hN : N < 18446744073709551616) (hk : k < 64) (hb : N.testBit k = false) : Bt.set N k = N + 2 ^ k := by
  unfold Bt.set
  rw [if_pos (okK_nat hk), Int.toNat_natCast]
  have : N &&& 2 ^ k = 0 := by
    apply Nat.eq_of_testBit_eq
    intro i
    rw [Nat.testBit_and, Nat.testBit_two_pow, Nat.zero_testBit]
    by_cases e : k = i
    · subst e; simp [hb]
    · simp [e]
  exact or_disj 64 N (2 ^ k) hN this
theorem set_same {N k : Nat} (hk : k < 64) (hb : N.testBit k = true) : Bt.set N k = N := by
  apply Nat.eq_of_testBit_eq
  intro i
  rw [Bt.set_testBit k hk]
  by_cases e : i = k
  · subst e; simp [hb]
  · simp [e]
theorem clear_same {N k : Nat} (hN : N < 18446744073709551616) (hk : k < 64) (hb : N.testBit k = false) : Bt.clear N k = N := by
  apply Nat.eq_of_testBit_eq
  intro i
  rw [Bt.clear_testBit k hk i hN]
  by_cases e : i = k
  · subst e; simp [hb]
  · simp [e]
theorem clear_sub {N k : Nat} (hN : N < 18446744073709551616) (hk : k < 64) (hb : N.testBit k = true) : 2 ^ k ≤ N ∧ Bt.clear N k = N - 2 ^ k := by
  have h1 := set_add (Bt.clear_lt hN k) hk (by rw [Bt.clear_testBit k hk k hN]; simp)
  have h2 : Bt.set (Bt.clear N k) k = N := by
    apply Nat.eq_of_testBit_eq
    intro i
    rw [Bt.set_testBit k hk, Bt.clear_testBit k hk i hN]
    by_cases e : i = k
    · subst e; simp [hb]
    · simp [e]
  omega

theorem one_call (k : Nat) (hk : k < 64) (w : World) :
    Calls Tryd.prog 24 #[.int .i64 k] w fun e w' => e = .returned (.int .u64 (2 ^ k : Nat)) ∧ w = w' := by
  obtain ⟨P, hP⟩ : ∃ P, 2 ^ k = P := ⟨_, rfl⟩
  rw [hP]
  have HP := Lib.hid hP
  clear hP
  go_enter Tryd.func24, Tryd.ntmps24
  go_wp2_with fail
  go_loop [3, 4] (fun x i => ∃ j : Nat, j ≤ k ∧ i = .int .i64 j ∧ x = .int .u64 (2 ^ j : Nat)) (fun _ i => k - (intOf i).toNat)
  case atStart => exact ⟨0, Nat.zero_le _, rfl, rfl⟩
  case round =>
    obtain ⟨j, hj, rfl, rfl⟩ := hrel
    by_cases hlt : j < k
    · have hp := Bt.pow_lt (j + 1) (by omega)
      have hs : 2 ^ (j + 1) = 2 ^ j * 2 := Nat.pow_succ 2 j
      rw [hs] at hp
      have HX := Lib.hid hs
      clear hs
      generalize 2 ^ j = m at *
      go_wp2
      go_round
      case rel => exact ⟨j + 1, hlt, by go_num, by rw [HX.out]; go_num⟩
      case measure => simp [intOf]; omega
    · have : j = k := by omega
      subst this
      rw [HP.out]
      go_wp2
      go_ret
      exact ⟨rfl, rfl⟩

theorem rhas_call (N : Nat) (hN : N < 18446744073709551616) (k : Int) (w : World) :
    Calls Tryd.prog 14 #[.int .u64 N, .int .i64 k] w fun e w' => e = .returned (.bool (Bt.has N k)) ∧ w = w' := by
  rcases okK_cases k with ⟨n, rfl, hn⟩ | ⟨h0, _⟩ | ⟨h0, h1, _⟩
  · have he : Bt.has N (n : Int) = N.testBit n := by unfold Bt.has; simp; omega
    rw [he]
    clear he
    obtain ⟨t, ht⟩ : ∃ t, N.testBit n = t := ⟨_, rfl⟩
    rw [ht]
    have HT := Lib.hid ht
    clear ht
    go_enter Tryd.func14, Tryd.ntmps14
    go_wp2_with fail
    go_loop [0, 5] (fun x i => ∃ j : Nat, j ≤ n ∧ i = .int .i64 j ∧ x = .int .u64 (N / 2 ^ j : Nat)) (fun _ i => n - (intOf i).toNat)
    case atStart => exact ⟨0, Nat.zero_le _, rfl, by simp⟩
    case round =>
      obtain ⟨j, hj, rfl, rfl⟩ := hrel
      have hle : N / 2 ^ j < 18446744073709551616 := Nat.lt_of_le_of_lt (Nat.div_le_self _ _) hN
      by_cases hlt : j < n
      · have hs : N / 2 ^ (j + 1) = N / 2 ^ j / 2 := by rw [Nat.pow_succ, Nat.div_div_eq_div_mul]
        have HX := Lib.hid hs
        clear hs
        generalize N / 2 ^ j = m at *
        go_wp2
        go_round
        case rel => exact ⟨j + 1, hlt, by go_num, by rw [HX.out]; go_num⟩
        case measure => simp [intOf]; omega
      · have : j = n := by omega
        subst this
        have hb : ((((N / 2 ^ j : Nat) : Int) % 2) == 1) = t := by
          rw [← HT.out, Nat.testBit_eq_decide_div_mod_eq, Bool.eq_iff_iff]
          simp only [beq_iff_eq, decide_eq_true_eq]
          omega
        generalize N / 2 ^ j = m at *
        go_wp2
        go_ret
        exact ⟨rfl, rfl⟩
  · have he : Bt.has N k = false := by unfold Bt.has; simp; omega
    rw [he]
    have d0 : decide (k < 0) = true := ltT h0
    clear he hN
    go_enter Tryd.func14, Tryd.ntmps14
    go_wp2
    go_ret
    exact ⟨rfl, rfl⟩
  · have he : Bt.has N k = false := by unfold Bt.has; simp; omega
    rw [he]
    have d0 : decide (k < 0) = false := ltF h1
    have d1 : decide (63 < k) = true := ltT (by omega)
    clear he hN
    go_enter Tryd.func14, Tryd.ntmps14
    go_wp2
    go_ret
    exact ⟨rfl, rfl⟩

theorem rset_call (N : Nat) (hN : N < 18446744073709551616) (k : Int) (w : World) :
    Calls Tryd.prog 10 #[.int .u64 N, .int .i64 k] w fun e w' => e = .returned (.tuple #[.int .u64 (Bt.set N k : Nat), .int .i64 (Bt.err k)]) ∧ w = w' := by
  rcases okK_cases k with ⟨n, rfl, hn⟩ | ⟨h0, he⟩ | ⟨h0, h1, he⟩
  · have h1 := rhas_call N hN n w
    have h2 := one_call n hn w
    have he : Bt.err (n : Int) = 0 := by unfold Bt.err; rw [okK_nat hn]; rfl
    rw [show Bt.has N (n : Int) = N.testBit n by unfold Bt.has; simp; omega] at h1
    rw [he]
    cases hb : N.testBit n with
    | true =>
      rw [set_same hn hb]
      rw [hb] at h1
      clear h2 he hb hN
      go_enter Tryd.func10, Tryd.ntmps10
      go_wp2_with ((with_reducible refine h1.mono ?_); rintro e w' ⟨rfl, rfl⟩)
      go_ret2
      exact ⟨rfl, rfl⟩
    | false =>
      have hlt := Bt.set_lt hN n
      rw [set_add hN hn hb] at hlt ⊢
      rw [hb] at h1
      clear he hb
      generalize 2 ^ n = m at *
      go_enter Tryd.func10, Tryd.ntmps10
      go_wp2_with (first | ((with_reducible refine h1.mono ?_); rintro e w' ⟨rfl, rfl⟩) | ((with_reducible refine h2.mono ?_); rintro e w' ⟨rfl, rfl⟩))
      go_ret2
      exact ⟨rfl, rfl⟩
  · have h2 : Bt.set N k = 0 ∧ Bt.err k = 2 := by unfold Bt.set Bt.err; rw [he]; exact ⟨rfl, rfl⟩
    rw [h2.1, h2.2]
    have d0 : decide (k < 0) = true := ltT h0
    clear he hN h2
    go_enter Tryd.func10, Tryd.ntmps10
    go_wp2
    go_ret2
    exact ⟨rfl, rfl⟩
  · have h2 : Bt.set N k = 0 ∧ Bt.err k = 2 := by unfold Bt.set Bt.err; rw [he]; exact ⟨rfl, rfl⟩
    rw [h2.1, h2.2]
    have d0 : decide (k < 0) = false := ltF h1
    have d1 : decide (63 < k) = true := ltT (by omega)
    clear he hN h2
    go_enter Tryd.func10, Tryd.ntmps10
    go_wp2
    go_ret2
    exact ⟨rfl, rfl⟩

theorem rclear_call (N : Nat) (hN : N < 18446744073709551616) (k : Int) (w : World) :
    Calls Tryd.prog 12 #[.int .u64 N, .int .i64 k] w fun e w' => e = .returned (.tuple #[.int .u64 (Bt.clear N k : Nat), .int .i64 (Bt.err k)]) ∧ w = w' := by
  rcases okK_cases k with ⟨n, rfl, hn⟩ | ⟨h0, he⟩ | ⟨h0, h1, he⟩
  · have h1 := rhas_call N hN n w
    have h2 := one_call n hn w
    have he : Bt.err (n : Int) = 0 := by unfold Bt.err; rw [okK_nat hn]; rfl
    rw [show Bt.has N (n : Int) = N.testBit n by unfold Bt.has; simp; omega] at h1
    rw [he]
    cases hb : N.testBit n with
    | false =>
      rw [clear_same hN hn hb]
      rw [hb] at h1
      clear h2 he hb hN
      go_enter Tryd.func12, Tryd.ntmps12
      go_wp2_with ((with_reducible refine h1.mono ?_); rintro e w' ⟨rfl, rfl⟩)
      go_ret2
      exact ⟨rfl, rfl⟩
    | true =>
      obtain ⟨hle, hc⟩ := clear_sub hN hn hb
      have hd : (N : Int) - ((2 ^ n : Nat) : Int) = ((N - 2 ^ n : Nat) : Int) := by omega
      rw [hc]
      rw [hb] at h1
      have hlt : N - 2 ^ n < 18446744073709551616 := Nat.lt_of_le_of_lt (Nat.sub_le _ _) hN
      clear he hb hc
      have hr2 : IntKind.u64.wrap ((N : Int) - ((2 ^ n : Nat) : Int)) = ((N - 2 ^ n : Nat) : Int) := by rw [hd]; exact wrap_nat _ hlt
      clear hd hle
      generalize N - 2 ^ n = r at *
      generalize 2 ^ n = m at *
      go_enter Tryd.func12, Tryd.ntmps12
      go_wp2_with (first | ((with_reducible refine h1.mono ?_); rintro e w' ⟨rfl, rfl⟩) | ((with_reducible refine h2.mono ?_); rintro e w' ⟨rfl, rfl⟩))
      go_ret2
      exact ⟨rfl, rfl⟩
  · have h2 : Bt.clear N k = 0 ∧ Bt.err k = 2 := by unfold Bt.clear Bt.err; rw [he]; exact ⟨rfl, rfl⟩
    rw [h2.1, h2.2]
    have d0 : decide (k < 0) = true := ltT h0
    clear he hN h2
    go_enter Tryd.func12, Tryd.ntmps12
    go_wp2
    go_ret2
    exact ⟨rfl, rfl⟩
  · have h2 : Bt.clear N k = 0 ∧ Bt.err k = 2 := by unfold Bt.clear Bt.err; rw [he]; exact ⟨rfl, rfl⟩
    rw [h2.1, h2.2]
    have d0 : decide (k < 0) = false := ltF h1
    have d1 : decide (63 < k) = true := ltT (by omega)
    clear he hN h2
    go_enter Tryd.func12, Tryd.ntmps12
    go_wp2
    go_ret2
    exact ⟨rfl, rfl⟩
end Go.Proofs.YtphjonpokhmekaaDoor
