/- What the functions of package bits compute, walked. Condition: words are below 2^64; where a table of math/bits is read, it holds what its initialiser lays. -/
import Derived.Test.YtphjonpokhmekaaDoorProg
import Derived.Test.YtphjonpokhmekaaDoorBase
import Derived.Test.YtphjonpokhmekaaDoorBitsSpec
import Derived.Test.YtphjonpokhmekaaDoorBitsLen
import Derived.Shelf.Spec.TrailingZeros
namespace Go.Proofs.YtphjonpokhmekaaDoor
open Go Go.RowKit

theorem okK_nat {k : Nat} (h : k < 64) : Bt.okK (k : Int) = true := by unfold Bt.okK; simp; omega
theorem okK_cases (k : Int) : (∃ n : Nat, k = n ∧ n < 64) ∨ (k < 0 ∧ Bt.okK k = false) ∨ (64 ≤ k ∧ 0 ≤ k ∧ Bt.okK k = false) := by
  rcases Int.lt_or_le k 0 with h | h
  · exact .inr (.inl ⟨h, by unfold Bt.okK; simp; omega⟩)
  · rcases Int.lt_or_le k 64 with h2 | h2
    · exact .inl ⟨k.toNat, by omega, by omega⟩
    · exact .inr (.inr ⟨h2, h, by unfold Bt.okK; simp; omega⟩)

theorem shr_nat (N k : Nat) : (N : Int) / 2 ^ k = ((N / 2 ^ k : Nat) : Int) := by
  rw [show (2 : Int) ^ k = ((2 ^ k : Nat) : Int) by simp]; rfl
theorem has_bit (N k : Nat) (hN : N < 18446744073709551616) : (bits .and .u64 ((N : Int) / 2 ^ k) 1 == 1) = N.testBit k := by
  have hl : N / 2 ^ k < 18446744073709551616 := Nat.lt_of_le_of_lt (Nat.div_le_self _ _) hN
  rw [shr_nat, show (1 : Int) = ((1 : Nat) : Int) by rfl, u64_and_nat _ _ hl (by omega), nat_mask1, Nat.testBit_eq_decide_div_mod_eq]
  rw [Bool.eq_iff_iff]
  simp only [beq_iff_eq, decide_eq_true_eq]
  omega
theorem pow_wrap (k : Nat) (hk : k < 64) : IntKind.u64.wrap (2 ^ k) = ((2 ^ k : Nat) : Int) := by
  have := Bt.pow_lt k hk
  rw [show (2 : Int) ^ k = ((2 ^ k : Nat) : Int) by simp, IntKind.wrap_u64]
  generalize 2 ^ k = m at *
  omega
theorem or_pow (N k : Nat) (hN : N < 18446744073709551616) (hk : k < 64) : bits .or .u64 (N : Int) (IntKind.u64.wrap (2 ^ k)) = ((Bt.set N (k : Int) : Nat) : Int) := by
  rw [pow_wrap k hk, u64_or_nat _ _ hN (Bt.pow_lt k hk)]
  unfold Bt.set; rw [if_pos (okK_nat hk), Int.toNat_natCast]
theorem andNot_pow (N k : Nat) (hN : N < 18446744073709551616) (hk : k < 64) : bits .andNot .u64 (N : Int) (IntKind.u64.wrap (2 ^ k)) = ((Bt.clear N (k : Int) : Nat) : Int) := by
  rw [pow_wrap k hk, u64_andNot_nat _ _ hN (Bt.pow_lt k hk)]
  unfold Bt.clear; rw [if_pos (okK_nat hk), Int.toNat_natCast]

theorem has_call (N : Nat) (hN : N < 18446744073709551616) (k : Int) (w : World) :
    Calls Tryd.prog 13 #[.int .u64 N, .int .i64 k] w fun e w' => e = .returned (.bool (Bt.has N k)) ∧ w = w' := by
  rcases okK_cases k with ⟨n, rfl, hn⟩ | ⟨h0, _⟩ | ⟨h0, h1, _⟩
  · have hb := has_bit N n hN
    have he : Bt.has N (n : Int) = N.testBit n := by unfold Bt.has; simp; omega
    rw [he]
    clear he hN
    generalize N.testBit n = t at *
    go_enter Tryd.func13, Tryd.ntmps13
    go_wp2
    go_ret
    exact ⟨rfl, rfl⟩
  · have he : Bt.has N k = false := by unfold Bt.has; simp; omega
    rw [he]
    have d0 : decide (0 ≤ k) = false := leF h0
    clear he hN
    go_enter Tryd.func13, Tryd.ntmps13
    go_wp2
    go_ret
    exact ⟨rfl, rfl⟩
  · have he : Bt.has N k = false := by unfold Bt.has; simp; omega
    rw [he]
    have d0 : decide (0 ≤ k) = true := leT h1
    have d1 : decide (k < 64) = false := ltF h0
    clear he hN
    go_enter Tryd.func13, Tryd.ntmps13
    go_wp2
    go_ret
    exact ⟨rfl, rfl⟩

theorem set_call (N : Nat) (hN : N < 18446744073709551616) (k : Int) (w : World) :
    Calls Tryd.prog 9 #[.int .u64 N, .int .i64 k] w fun e w' => e = .returned (.tuple #[.int .u64 (Bt.set N k : Nat), .int .i64 (Bt.err k)]) ∧ w = w' := by
  rcases okK_cases k with ⟨n, rfl, hn⟩ | ⟨h0, he⟩ | ⟨h0, h1, he⟩
  · have hb := or_pow N n hN hn
    have he : Bt.err (n : Int) = 0 := by unfold Bt.err; rw [okK_nat hn]; rfl
    rw [he]
    clear he hN
    generalize Bt.set N (n : Int) = t at *
    go_enter Tryd.func9, Tryd.ntmps9
    go_wp2
    go_ret2
    exact ⟨rfl, rfl⟩
  · have h2 : Bt.set N k = 0 ∧ Bt.err k = 2 := by unfold Bt.set Bt.err; rw [he]; exact ⟨rfl, rfl⟩
    rw [h2.1, h2.2]
    have d0 : decide (k < 0) = true := ltT h0
    clear he hN h2
    go_enter Tryd.func9, Tryd.ntmps9
    go_wp2
    go_ret2
    exact ⟨rfl, rfl⟩
  · have h2 : Bt.set N k = 0 ∧ Bt.err k = 2 := by unfold Bt.set Bt.err; rw [he]; exact ⟨rfl, rfl⟩
    rw [h2.1, h2.2]
    have d0 : decide (k < 0) = false := ltF h1
    have d1 : decide (64 ≤ k) = true := leT h0
    clear he hN h2
    go_enter Tryd.func9, Tryd.ntmps9
    go_wp2
    go_ret2
    exact ⟨rfl, rfl⟩

theorem clear_call (N : Nat) (hN : N < 18446744073709551616) (k : Int) (w : World) :
    Calls Tryd.prog 11 #[.int .u64 N, .int .i64 k] w fun e w' => e = .returned (.tuple #[.int .u64 (Bt.clear N k : Nat), .int .i64 (Bt.err k)]) ∧ w = w' := by
  rcases okK_cases k with ⟨n, rfl, hn⟩ | ⟨h0, he⟩ | ⟨h0, h1, he⟩
  · have hb := andNot_pow N n hN hn
    have he : Bt.err (n : Int) = 0 := by unfold Bt.err; rw [okK_nat hn]; rfl
    rw [he]
    clear he hN
    generalize Bt.clear N (n : Int) = t at *
    go_enter Tryd.func11, Tryd.ntmps11
    go_wp2
    go_ret2
    exact ⟨rfl, rfl⟩
  · have h2 : Bt.clear N k = 0 ∧ Bt.err k = 2 := by unfold Bt.clear Bt.err; rw [he]; exact ⟨rfl, rfl⟩
    rw [h2.1, h2.2]
    have d0 : decide (k < 0) = true := ltT h0
    clear he hN h2
    go_enter Tryd.func11, Tryd.ntmps11
    go_wp2
    go_ret2
    exact ⟨rfl, rfl⟩
  · have h2 : Bt.clear N k = 0 ∧ Bt.err k = 2 := by unfold Bt.clear Bt.err; rw [he]; exact ⟨rfl, rfl⟩
    rw [h2.1, h2.2]
    have d0 : decide (k < 0) = false := ltF h1
    have d1 : decide (64 ≤ k) = true := leT h0
    clear he hN h2
    go_enter Tryd.func11, Tryd.ntmps11
    go_wp2
    go_ret2
    exact ⟨rfl, rfl⟩

theorem full_call (n : Int) (w : World) :
    Calls Tryd.prog 22 #[.int .i64 n] w fun e w' => e = .returned (.int .u64 (Bt.full n : Nat)) ∧ w = w' := by
  rcases okK_cases n with ⟨k, rfl, hk⟩ | ⟨h0, _⟩ | ⟨h0, h1, _⟩
  · have hb : IntKind.u64.wrap (IntKind.u64.wrap (2 ^ k) - 1) = ((Bt.full (k : Int) : Nat) : Int) := by
      have hc : Bt.cl (k : Int) = k := by unfold Bt.cl; omega
      have := Bt.pow_lt k hk
      have := Nat.two_pow_pos k
      unfold Bt.full
      rw [pow_wrap k hk, hc, IntKind.wrap_u64]; omega
    generalize Bt.full (k : Int) = t at *
    go_enter Tryd.func22, Tryd.ntmps22
    go_wp2
    go_ret
    exact ⟨rfl, rfl⟩
  · have hf : Bt.full n = 0 := by
      have hc : Bt.cl n = 0 := by unfold Bt.cl; omega
      unfold Bt.full; rw [hc]
    have hm : max n 0 = 0 := by omega
    rw [hf]
    clear hf
    go_enter Tryd.func22, Tryd.ntmps22
    go_wp2
    go_ret
    exact ⟨rfl, rfl⟩
  · have hf : Bt.full n = 18446744073709551615 := by
      have hc : Bt.cl n = 64 := by unfold Bt.cl; omega
      unfold Bt.full; rw [hc]
    rw [hf]
    have d1 : decide (64 ≤ n) = true := leT h0
    clear hf
    go_enter Tryd.func22, Tryd.ntmps22
    go_wp2
    go_ret
    exact ⟨rfl, rfl⟩

theorem cutword (N : Nat) (hN : N < 18446744073709551616) (n : Int) : bits .and .u64 (N : Int) ((Bt.full n : Nat) : Int) = ((Bt.cut N n : Nat) : Int) := by
  have hf : Bt.full n < 18446744073709551616 := by
    have := Bt.pow_le _ (Bt.cl_le n)
    have := Nat.two_pow_pos (Bt.cl n)
    unfold Bt.full; omega
  rw [u64_and_nat _ _ hN hf]
  unfold Bt.full Bt.cut
  rw [Nat.and_two_pow_sub_one_eq_mod]

theorem cut1_call (N : Nat) (hN : N < 18446744073709551616) (n : Int) (a : Addr) (w : World) (hc : w.cell? a = some (.int .u64 (Bt.full n : Nat))) :
    Calls Tryd.prog 29 #[.int .u64 N, .pointer (some a)] w fun e w' => e = .returned (.int .u64 (Bt.cut N n : Nat)) ∧ w = w' := by
  have hb := cutword N hN n
  clear hN
  generalize Bt.full n = m at *
  generalize Bt.cut N n = t at *
  go_enter Tryd.func29, Tryd.ntmps29
  go_wp2
  go_ret
  exact ⟨rfl, rfl⟩

theorem cut_call (n : Int) (w : World) :
    Calls Tryd.prog 25 #[.int .i64 n] w fun e w' => e = .returned (.func (.func 29) #[] #[.pointer (some ⟨w.heap.size, 0, none⟩)]) ∧ w.alloc (.cells #[.int .u64 (Bt.full n : Nat)] 22) = w' := by
  have hf := full_call n w
  generalize Bt.full n = m at *
  go_enter Tryd.func25, Tryd.ntmps25
  go_wp2_with ((with_reducible refine hf.mono ?_); rintro e w' ⟨rfl, rfl⟩)
  go_ret
  exact ⟨rfl, rfl⟩

theorem len_call (N : Nat) (hN : N < 18446744073709551616) (w : World) :
    Calls Tryd.prog 27 #[.int .u64 N] w fun e w' => e = .returned (.int .i64 (Lib.bitLen N)) ∧ w = w' :=
  (Tryd.bits_Len64 (N : Int) w (by omega) (by omega)).mono fun e w' ⟨he, hw⟩ => ⟨by rw [he, Int.toNat_natCast], hw.symm⟩

/-- The table of math/bits holds what its initialiser lays. -/
def Tab64 (w : World) : Prop := ∀ j, j < 64 → w.cell? ⟨0, j, none⟩ = some (.int .u8 (Lib.deBruijn64tab.getD j 0 : Nat))

theorem ctz_zero (w : World) : Calls Tryd.prog 26 #[.int .u64 0] w fun e w' => e = .returned (.int .i64 64) ∧ w = w' := by
  go_enter Tryd.func26, Tryd.ntmps26
  go_wp2
  go_ret
  exact ⟨rfl, rfl⟩

theorem ctz_walk (N idx r : Nat) (w : World) (h1 : ((N : Int) == 0) = false)
    (hk : IntKind.u64.wrap (bits BinOp.and IntKind.u64 (N : Int) (IntKind.u64.wrap (-(N : Int))) * 285870213051353865) / 288230376151711744 = (idx : Int)) (hi : idx < 64)
    (hc : w.cell? ⟨0, idx, none⟩ = some (.int .u8 (r : Int))) (hlt : r < 64) :
    Calls Tryd.prog 26 #[.int .u64 N] w fun e w' => e = .returned (.int .i64 (r : Int)) ∧ w = w' := by
  go_enter Tryd.func26, Tryd.ntmps26
  go_wp2
  go_ret
  exact ⟨rfl, rfl⟩

theorem ctz_call (N : Nat) (hN : N < 18446744073709551616) (h0 : N ≠ 0) (w : World) (hT : Tab64 w) :
    Calls Tryd.prog 26 #[.int .u64 N] w fun e w' => e = .returned (.int .i64 (Lib.ctz 64 N)) ∧ w = w' := by
  have hl := Lib.lowest_bit 64 N h0 hN
  have hd := Lib.deBruijn64_at (Lib.ctz 64 N) hl.2
  have hc := hT _ hd.1
  rw [hd.2] at hc
  exact ctz_walk N _ _ w (beqF (by omega)) (tz64_key N _ hN h0 hl.1) hd.1 hc hl.2

theorem ones_walk (N T1 T2 T3 T4 T5 T6 : Nat) (r : Int) (w : World)
    (e1 : IntKind.u64.wrap (bits .and .u64 ((N : Int) / 2) 6148914691236517205 + bits .and .u64 (N : Int) 6148914691236517205) = (T1 : Int))
    (e2 : IntKind.u64.wrap (bits .and .u64 ((T1 : Int) / 4) 3689348814741910323 + bits .and .u64 (T1 : Int) 3689348814741910323) = (T2 : Int))
    (e3 : bits .and .u64 (IntKind.u64.wrap ((T2 : Int) / 16 + (T2 : Int))) 1085102592571150095 = (T3 : Int))
    (e4 : IntKind.u64.wrap ((T3 : Int) + (T3 : Int) / 256) = (T4 : Int)) (e5 : IntKind.u64.wrap ((T4 : Int) + (T4 : Int) / 65536) = (T5 : Int)) (e6 : IntKind.u64.wrap ((T5 : Int) + (T5 : Int) / 4294967296) = (T6 : Int))
    (e7 : bits .and .i64 (wrap64 (T6 : Int)) 127 = r) :
    Calls Tryd.prog 28 #[.int .u64 N] w fun e w' => e = .returned (.int .i64 r) ∧ w = w' := by
  go_enter Tryd.func28, Tryd.ntmps28
  go_wp2
  go_ret
  exact ⟨rfl, rfl⟩

theorem and127 (x : Nat) (h : x < 9223372036854775808) : bits .and .i64 (wrap64 (x : Int)) 127 = ((x % 128 : Nat) : Int) := by
  have hw : wrap64 (x : Int) = x := by unfold wrap64; omega
  rw [hw]
  have e : (BitVec.ofInt 64 (x : Int) &&& BitVec.ofInt 64 127).toNat = x % 128 := by
    rw [BitVec.toNat_and, ofInt_u64 x (by omega)]
    exact Nat.and_two_pow_sub_one_eq_mod x 7
  show IntKind.i64.wrap (((BitVec.ofInt 64 (x : Int) &&& BitVec.ofInt 64 127).toNat : Nat) : Int) = _
  rw [e, IntKind.wrap_i64]; omega

theorem wrap_nat (x : Nat) (h : x < 18446744073709551616) : IntKind.u64.wrap (x : Int) = x := by rw [IntKind.wrap_u64]; omega
theorem and_nat' (x m : Nat) (hx : x < 18446744073709551616) (hm : m < 18446744073709551616) : bits .and .u64 (x : Int) (m : Int) = ((x &&& m : Nat) : Int) := u64_and_nat x m hx hm

theorem ones_call (N : Nat) (hN : N < 18446744073709551616) (w : World) :
    Calls Tryd.prog 28 #[.int .u64 N] w fun e w' => e = .returned (.int .i64 (Lib.onesCount N)) ∧ w = w' := by
  obtain ⟨p0, p1, p2, p3, p4, p5, p6, p7, h0, h1, h2, h3, h4, h5, h6, h7, l1, l2, l3, q3, hc⟩ := Bt.ones_steps N hN
  have lt3 : Bt.t3 (Bt.t2 (Bt.t1 N)) < 18446744073709551616 := Nat.lt_of_le_of_lt Nat.and_le_right (by decide)
  have hs := Bt.sum_by8 p0 p1 p2 p3 p4 p5 p6 p7 h0 h1 h2 h3 h4 h5 h6 h7
  rw [← q3, ← hc] at hs
  clear q3 hc h0 h1 h2 h3 h4 h5 h6 h7
  have k1 : IntKind.u64.wrap (bits .and .u64 ((N : Int) / 2) 6148914691236517205 + bits .and .u64 (N : Int) 6148914691236517205) = ((Bt.t1 N : Nat) : Int) := by
    rw [show (N : Int) / 2 = ((N / 2 : Nat) : Int) by rfl, show (6148914691236517205 : Int) = ((6148914691236517205 : Nat) : Int) by rfl, and_nat' _ _ (by omega) (by omega), and_nat' _ _ hN (by omega), ← Int.natCast_add]
    exact wrap_nat _ l1
  generalize Bt.t1 N = T1 at *
  have lT1 := l1
  have k2 : IntKind.u64.wrap (bits .and .u64 ((T1 : Int) / 4) 3689348814741910323 + bits .and .u64 (T1 : Int) 3689348814741910323) = ((Bt.t2 T1 : Nat) : Int) := by
    rw [show (T1 : Int) / 4 = ((T1 / 4 : Nat) : Int) by rfl, show (3689348814741910323 : Int) = ((3689348814741910323 : Nat) : Int) by rfl, and_nat' _ _ (by omega) (by omega), and_nat' _ _ lT1 (by omega), ← Int.natCast_add]
    exact wrap_nat _ l2
  generalize Bt.t2 T1 = T2 at *
  have k3 : bits .and .u64 (IntKind.u64.wrap ((T2 : Int) / 16 + (T2 : Int))) 1085102592571150095 = ((Bt.t3 T2 : Nat) : Int) := by
    rw [show (T2 : Int) / 16 + (T2 : Int) = ((T2 / 16 + T2 : Nat) : Int) by rfl, wrap_nat _ l3, show (1085102592571150095 : Int) = ((1085102592571150095 : Nat) : Int) by rfl, and_nat' _ _ l3 (by omega)]
    rfl
  generalize Bt.t3 T2 = T3 at *
  obtain ⟨s1, s2, s3, s4⟩ := hs _ _ _ rfl rfl rfl
  have k4 : IntKind.u64.wrap ((T3 : Int) + (T3 : Int) / 256) = ((T3 + T3 / 256 : Nat) : Int) := wrap_nat _ s1
  generalize T3 + T3 / 256 = T4 at *
  have k5 : IntKind.u64.wrap ((T4 : Int) + (T4 : Int) / 65536) = ((T4 + T4 / 65536 : Nat) : Int) := wrap_nat _ s2
  generalize T4 + T4 / 65536 = T5 at *
  have k6 : IntKind.u64.wrap ((T5 : Int) + (T5 : Int) / 4294967296) = ((T5 + T5 / 4294967296 : Nat) : Int) := wrap_nat _ (Nat.lt_trans s3 (by decide))
  generalize T5 + T5 / 4294967296 = T6 at *
  exact ones_walk N T1 T2 T3 T4 T5 T6 _ w k1 k2 k3 k4 k5 k6 (by rw [and127 T6 s3, s4])
end Go.Proofs.YtphjonpokhmekaaDoor
