/- The plain law of small sets as the bits of a word: what the calls of package bits compute, and how that stands to the bits one by one. No program stands here. | The library's contract of math/bits.Len64 at this program, laid by the kit's shelf (lay-shelf, lay-plain). Condition: a 64-bit word. | What the functions of package bits compute, walked. Condition: words are below 2^64; where a table of math/bits is read, it holds what its initialiser lays. | Free of package bits, walked. Condition: words are below 2^64; the table of math/bits holds what its initialiser lays. | Count of package bits, walked. Condition: words are below 2^64; the table of math/bits holds what its initialiser lays. -/
import Derived.Lib.BitFns
import Derived.Lib.TrailingZeros
import Derived.Shelf.Strconv.Itoa0
import Derived.Test.YtfmkiioahnphbaaDoorProg
import Derived.Test.YtfmkiioahnphbaaDoorGround
import Derived.Shelf.Spec.TrailingZeros
set_option linter.unusedVariables false
set_option linter.unusedSimpArgs false
set_option maxRecDepth 100000
namespace Go.Proofs.YtfmkiioahnphbaaDoor
namespace Bt
open Go

def W : Nat := 18446744073709551616
/-- How many numbers are asked for. -/
def cl (n : Int) : Nat := (min n 64).toNat
def full (n : Int) : Nat := 2 ^ cl n - 1
def cut (N : Nat) (n : Int) : Nat := N % 2 ^ cl n
def has (N : Nat) (k : Int) : Bool := decide (0 ≤ k) && decide (k < 64) && N.testBit k.toNat
def okK (k : Int) : Bool := decide (0 ≤ k) && decide (k < 64)
def set (N : Nat) (k : Int) : Nat := if okK k then N ||| 2 ^ k.toNat else 0
def clear (N : Nat) (k : Int) : Nat := if okK k then N &&& (18446744073709551615 - 2 ^ k.toNat) else 0
def err (k : Int) : Int := if okK k then 0 else 2
def free (N : Nat) (n : Int) : Int := if cut (18446744073709551615 - N) n = 0 then -1 else (Lib.ctz 64 (cut (18446744073709551615 - N) n) : Int)
def last (N : Nat) (n : Int) : Int := (Lib.bitLen (cut N n) : Int) - 1
def count (N : Nat) (n : Int) : Int := (Lib.onesCount (cut N n) : Int)

theorem cl_le (n : Int) : cl n ≤ 64 := by unfold cl; omega
theorem cl_of (n : Int) (h0 : 0 ≤ n) (h1 : n ≤ 64) : (cl n : Int) = n := by unfold cl; omega
theorem pow_le (k : Nat) (h : k ≤ 64) : 2 ^ k ≤ 18446744073709551616 := Nat.pow_le_pow_right (n := 2) (by omega) h
theorem pow_lt (k : Nat) (h : k < 64) : 2 ^ k < 18446744073709551616 := Nat.pow_lt_pow_right (by omega) h
theorem cut_lt (N : Nat) (n : Int) : cut N n < 18446744073709551616 := Nat.lt_of_lt_of_le (Nat.mod_lt _ (Nat.two_pow_pos _)) (pow_le _ (cl_le n))
theorem cut_testBit (N : Nat) (n : Int) (i : Nat) : (cut N n).testBit i = (decide (i < cl n) && N.testBit i) := by unfold cut; rw [Nat.testBit_mod_two_pow]
theorem testBit_ge {N i : Nat} (h : N < 18446744073709551616) (hi : 64 ≤ i) : N.testBit i = false :=
  Nat.testBit_lt_two_pow (Nat.lt_of_lt_of_le h (Nat.pow_le_pow_right (n := 2) (by omega) hi : 2 ^ 64 ≤ 2 ^ i))
theorem compl_testBit {N i : Nat} (h : N < 18446744073709551616) : (18446744073709551615 - N).testBit i = (decide (i < 64) && !N.testBit i) := by
  have e : 18446744073709551615 - N = 2 ^ 64 - (N + 1) := by omega
  rw [e, Nat.testBit_two_pow_sub_succ (by omega)]

theorem set_lt {N : Nat} (h : N < 18446744073709551616) (k : Int) : set N k < 18446744073709551616 := by
  unfold set
  split
  · rename_i hk
    simp only [okK, Bool.and_eq_true, decide_eq_true_eq] at hk
    exact Nat.or_lt_two_pow (n := 64) h (pow_lt _ (by omega))
  · omega
theorem clear_lt {N : Nat} (h : N < 18446744073709551616) (k : Int) : clear N k < 18446744073709551616 := by
  unfold clear
  split
  · exact Nat.lt_of_le_of_lt Nat.and_le_left h
  · omega
theorem set_testBit {N : Nat} (k : Nat) (hk : k < 64) (i : Nat) : (set N (k : Int)).testBit i = (N.testBit i || decide (i = k)) := by
  have : okK (k : Int) = true := by unfold okK; simp; omega
  unfold set
  rw [if_pos this, Nat.testBit_or, Int.toNat_natCast, Nat.testBit_two_pow]
  by_cases e : k = i
  · subst e; simp
  · have e2 : ¬ i = k := fun x => e x.symm
    simp [e, e2]
theorem clear_testBit {N : Nat} (k : Nat) (hk : k < 64) (i : Nat) (hN : N < 18446744073709551616) : (clear N (k : Int)).testBit i = (N.testBit i && !decide (i = k)) := by
  have : okK (k : Int) = true := by unfold okK; simp; omega
  unfold clear
  rw [if_pos this, Nat.testBit_and, Int.toNat_natCast, compl_testBit (pow_lt k hk), Nat.testBit_two_pow]
  by_cases hi : i < 64
  · by_cases e : k = i
    · subst e; simp
    · have e2 : ¬ i = k := fun x => e x.symm
      simp [e, e2, hi]
  · rw [testBit_ge hN (by omega)]; simp

/-- The trailing zeros: the first bit that is there. -/
theorem ctz_spec {x : Nat} (h0 : x ≠ 0) (h : x < 18446744073709551616) : x.testBit (Lib.ctz 64 x) = true ∧ (∀ i, i < Lib.ctz 64 x → x.testBit i = false) ∧ Lib.ctz 64 x < 64 := by
  obtain ⟨m, hm, hlt⟩ := Lib.ctzFrom_spec 64 x (by omega) h
  have e : Lib.ctz 64 x = Lib.ctzFrom 64 x := by unfold Lib.ctz; rw [if_neg h0]
  rw [e]
  generalize Lib.ctzFrom 64 x = k at *
  subst hm
  refine ⟨?_, fun i hi => ?_, hlt⟩
  · rw [Nat.testBit_two_pow_mul]; simp
  · rw [Nat.testBit_two_pow_mul]; simp; omega

theorem bitLenAux_zero (f : Nat) : Lib.bitLenAux f 0 = 0 := by cases f <;> simp [Lib.bitLenAux]

/-- The length: behind the last bit that is there. -/
theorem bitLenAux_spec : ∀ (f x : Nat), x < 2 ^ f → x < 2 ^ Lib.bitLenAux f x ∧ (x ≠ 0 → 2 ^ (Lib.bitLenAux f x - 1) ≤ x ∧ 0 < Lib.bitLenAux f x) := by
  intro f
  induction f with
  | zero => intro x h; simp at h; subst h; simp [Lib.bitLenAux]
  | succ f ih =>
    intro x h
    unfold Lib.bitLenAux
    by_cases h0 : x = 0
    · subst h0; simp
    · rw [if_neg h0]
      obtain ⟨h1, h2⟩ := ih (x / 2) (by rw [Nat.pow_succ] at h; omega)
      by_cases hz : x / 2 = 0
      · have : x = 1 := by omega
        subst this
        rw [hz, bitLenAux_zero]
        simp
      · generalize Lib.bitLenAux f (x / 2) = b at *
        obtain ⟨h3, h4⟩ := h2 hz
        refine ⟨by rw [Nat.add_comm, Nat.pow_succ]; omega, fun _ => ⟨?_, by omega⟩⟩
        have : 1 + b - 1 = (b - 1) + 1 := by omega
        rw [this, Nat.pow_succ]; omega

theorem bitLen_spec {x : Nat} (h : x < 18446744073709551616) : (∀ i, Lib.bitLen x ≤ i → x.testBit i = false) ∧ (x ≠ 0 → x.testBit (Lib.bitLen x - 1) = true ∧ 0 < Lib.bitLen x) ∧ (x = 0 → Lib.bitLen x = 0) := by
  obtain ⟨h1, h2⟩ := bitLenAux_spec 64 x h
  have e : Lib.bitLen x = Lib.bitLenAux 64 x := rfl
  rw [← e] at h1 h2
  refine ⟨fun i hi => Nat.testBit_lt_two_pow (Nat.lt_of_lt_of_le h1 (Nat.pow_le_pow_right (by omega) hi)), fun h0 => ⟨?_, (h2 h0).2⟩, fun h0 => by subst h0; rfl⟩
  refine Nat.testBit_of_two_pow_le_and_two_pow_add_one_gt (h2 h0).1 ?_
  have := (h2 h0).2
  rw [Nat.sub_add_cancel (by omega)]; exact h1

/-- How many of the first k bits are there. -/
def cnt (N : Nat) : Nat → Nat
  | 0 => 0
  | k + 1 => cnt N k + (if N.testBit k then 1 else 0)

theorem cnt_congr (N M : Nat) : ∀ k, (∀ i, i < k → N.testBit i = M.testBit i) → cnt N k = cnt M k := by
  intro k
  induction k with
  | zero => intro _; rfl
  | succ k ih => intro h; unfold cnt; rw [ih (fun i hi => h i (by omega)), h k (by omega)]

theorem cnt_le (N : Nat) : ∀ k, cnt N k ≤ k := by
  intro k
  induction k with
  | zero => exact Nat.le_refl _
  | succ k ih => unfold cnt; split <;> omega

theorem cnt_shift (N : Nat) : ∀ k, cnt N (k + 1) = (if N.testBit 0 then 1 else 0) + cnt (N / 2) k := by
  intro k
  induction k with
  | zero => simp [cnt]
  | succ k ih =>
    have : cnt N (k + 1 + 1) = cnt N (k + 1) + (if N.testBit (k + 1) then 1 else 0) := rfl
    rw [this, ih]
    have e : cnt (N / 2) (k + 1) = cnt (N / 2) k + (if (N / 2).testBit k then 1 else 0) := rfl
    rw [e, Nat.testBit_succ]; omega

theorem popAux_cnt : ∀ (f x : Nat), Lib.popAux f x = cnt x f := by
  intro f
  induction f with
  | zero => intro x; rfl
  | succ f ih =>
    intro x
    unfold Lib.popAux
    rw [ih, cnt_shift]
    have : (if x.testBit 0 then 1 else 0) = x % 2 := by
      rw [Nat.testBit_zero]
      by_cases h : x % 2 = 1
      · simp [h]
      · have : x % 2 = 0 := by omega
        simp [this]
    rw [this]

theorem cnt_cut (N : Nat) (c : Nat) : ∀ k, c ≤ k → cnt (N % 2 ^ c) k = cnt N c := by
  intro k
  induction k with
  | zero => intro h; have : c = 0 := by omega
            subst this; rfl
  | succ k ih =>
    intro h
    rcases Nat.lt_or_ge k c with h1 | h1
    · have : c = k + 1 := by omega
      subst this
      exact cnt_congr _ _ _ fun i hi => by rw [Nat.testBit_mod_two_pow]; simp [hi]
    · show cnt (N % 2 ^ c) k + (if (N % 2 ^ c).testBit k then 1 else 0) = cnt N c
      rw [ih h1, Nat.testBit_mod_two_pow]
      have : ¬ k < c := by omega
      simp [this]

theorem count_eq (N : Nat) (n : Int) : count N n = (cnt N (cl n) : Int) := by
  unfold count Lib.onesCount cut
  rw [popAux_cnt, cnt_cut N (cl n) 64 (cl_le n)]

/-- The free number: the first that is not there. -/
theorem free_spec {N : Nat} (h : N < 18446744073709551616) (n : Int) :
    (free N n = -1 ∧ ∀ i, i < cl n → N.testBit i = true) ∨ ∃ k : Nat, free N n = k ∧ k < cl n ∧ N.testBit k = false ∧ ∀ i, i < k → N.testBit i = true := by
  have hb : ∀ i, (cut (18446744073709551615 - N) n).testBit i = (decide (i < cl n) && !N.testBit i) := by
    intro i
    rw [cut_testBit, compl_testBit h]
    by_cases hi : i < cl n
    · have := cl_le n
      have h2 : i < 64 := by omega
      simp [hi, h2]
    · simp [hi]
  unfold free
  by_cases h0 : cut (18446744073709551615 - N) n = 0
  · rw [if_pos h0]
    refine .inl ⟨rfl, fun i hi => ?_⟩
    have := hb i
    rw [h0] at this
    simp [hi] at this
    exact this
  · rw [if_neg h0]
    obtain ⟨h1, h2, h3⟩ := ctz_spec h0 (cut_lt _ n)
    generalize Lib.ctz 64 (cut (18446744073709551615 - N) n) = k at *
    rw [hb] at h1
    simp only [Bool.and_eq_true, decide_eq_true_eq, Bool.not_eq_true'] at h1
    refine .inr ⟨k, rfl, h1.1, h1.2, fun i hi => ?_⟩
    have := h2 i hi
    rw [hb] at this
    have h4 : i < cl n := by omega
    simpa [h4] using this

/-- The last number: the last that is there. -/
theorem last_spec (N : Nat) (n : Int) :
    (last N n = -1 ∧ ∀ i, i < cl n → N.testBit i = false) ∨ ∃ k : Nat, last N n = k ∧ k < cl n ∧ N.testBit k = true ∧ ∀ i, k < i → i < cl n → N.testBit i = false := by
  obtain ⟨h1, h2, h3⟩ := bitLen_spec (cut_lt N n)
  unfold last
  by_cases h0 : cut N n = 0
  · rw [h3 h0]
    refine .inl ⟨rfl, fun i hi => ?_⟩
    have := cut_testBit N n i
    rw [h0] at this
    simp [hi] at this
    exact this
  · obtain ⟨h4, h5⟩ := h2 h0
    generalize Lib.bitLen (cut N n) = b at *
    rw [cut_testBit] at h4
    simp only [Bool.and_eq_true, decide_eq_true_eq] at h4
    refine .inr ⟨b - 1, by omega, h4.1, h4.2, fun i hi hc => ?_⟩
    have := h1 i (by omega)
    rw [cut_testBit] at this
    simpa [hc] using this

/-! The count by halves, quarters, bytes. -/
theorem and_split (x M : Nat) : x &&& M = 256 * (x / 256 &&& M / 256) + (x % 256 &&& M % 256) := by
  have h1 : (x &&& M) / 256 = x / 256 &&& M / 256 := Nat.and_div_two_pow (n := 8)
  have h2 : (x &&& M) % 256 = x % 256 &&& M % 256 := Nat.and_mod_two_pow (n := 8)
  rw [← h1, ← h2]; omega

def by8 (b0 b1 b2 b3 b4 b5 b6 b7 : Nat) : Nat := b0 + 256 * (b1 + 256 * (b2 + 256 * (b3 + 256 * (b4 + 256 * (b5 + 256 * (b6 + 256 * b7))))))

theorem and_by1 (b r m M : Nat) (hb : b < 256) (hm : m < 256) : (b + 256 * r) &&& (m + 256 * M) = (b &&& m) + 256 * (r &&& M) := by
  rw [and_split, show (b + 256 * r) / 256 = r by omega, show (m + 256 * M) / 256 = M by omega, show (b + 256 * r) % 256 = b by omega, show (m + 256 * M) % 256 = m by omega]; omega

theorem and_by8 (b0 b1 b2 b3 b4 b5 b6 b7 m : Nat) (h0 : b0 < 256) (h1 : b1 < 256) (h2 : b2 < 256) (h3 : b3 < 256) (h4 : b4 < 256) (h5 : b5 < 256) (h6 : b6 < 256) (hm : m < 256) :
    by8 b0 b1 b2 b3 b4 b5 b6 b7 &&& by8 m m m m m m m m = by8 (b0 &&& m) (b1 &&& m) (b2 &&& m) (b3 &&& m) (b4 &&& m) (b5 &&& m) (b6 &&& m) (b7 &&& m) := by
  unfold by8
  rw [and_by1 _ _ _ _ h0 hm, and_by1 _ _ _ _ h1 hm, and_by1 _ _ _ _ h2 hm, and_by1 _ _ _ _ h3 hm, and_by1 _ _ _ _ h4 hm, and_by1 _ _ _ _ h5 hm, and_by1 _ _ _ _ h6 hm]

def f1 (b : Nat) : Nat := (b / 2 &&& 85) + (b &&& 85)
def f2 (b : Nat) : Nat := (f1 b / 4 &&& 51) + (f1 b &&& 51)
def f3 (b : Nat) : Nat := (f2 b / 16 + f2 b) &&& 15
theorem byte1 : ∀ b : Fin 256, ∀ e : Fin 2, (b.val / 2 + 128 * e.val) &&& 85 = b.val / 2 &&& 85 := by decide +kernel
theorem byte2 : ∀ b : Fin 256, ∀ e : Fin 4, (b.val / 4 + 64 * e.val) &&& 51 = b.val / 4 &&& 51 := by decide +kernel
theorem byte3 : ∀ b : Fin 256, ∀ e : Fin 16, (f2 b.val / 16 + 16 * e.val + f2 b.val) &&& 15 = f3 b.val := by decide +kernel
theorem byte_le : ∀ b : Fin 256, f1 b.val < 256 ∧ f2 b.val ≤ 68 ∧ f3 b.val ≤ 8 ∧ f3 b.val = Lib.popAux 8 b.val ∧ f2 b.val / 16 ≤ 4 ∧ f2 b.val % 16 ≤ 4 := by decide +kernel

theorem popAux_succ (f x : Nat) : Lib.popAux (f + 1) x = x % 2 + Lib.popAux f (x / 2) := rfl
theorem popAux_split : ∀ (k f x : Nat), Lib.popAux (k + f) x = Lib.popAux k (x % 2 ^ k) + Lib.popAux f (x / 2 ^ k) := by
  intro k
  induction k with
  | zero => intro f x; simp [Lib.popAux]
  | succ k ih =>
    intro f x
    rw [show k + 1 + f = (k + f) + 1 by omega, popAux_succ, popAux_succ, ih]
    have e1 : x % 2 ^ (k + 1) % 2 = x % 2 := Nat.mod_mod_of_dvd x ⟨2 ^ k, by rw [Nat.pow_succ, Nat.mul_comm]⟩
    have e2 : x % 2 ^ (k + 1) / 2 = x / 2 % 2 ^ k := by rw [Nat.pow_succ, Nat.mul_comm, Nat.mod_mul_right_div_self]
    have e3 : x / 2 ^ (k + 1) = x / 2 / 2 ^ k := by rw [Nat.pow_succ, Nat.mul_comm, Nat.div_div_eq_div_mul]
    rw [e1, e2, e3]; omega

theorem ones_by8 (b0 b1 b2 b3 b4 b5 b6 b7 : Nat) (h0 : b0 < 256) (h1 : b1 < 256) (h2 : b2 < 256) (h3 : b3 < 256) (h4 : b4 < 256) (h5 : b5 < 256) (h6 : b6 < 256) (_h7 : b7 < 256) :
    Lib.onesCount (by8 b0 b1 b2 b3 b4 b5 b6 b7) = Lib.popAux 8 b0 + Lib.popAux 8 b1 + Lib.popAux 8 b2 + Lib.popAux 8 b3 + Lib.popAux 8 b4 + Lib.popAux 8 b5 + Lib.popAux 8 b6 + Lib.popAux 8 b7 := by
  have one : ∀ f b r, b < 256 → Lib.popAux (8 + f) (b + 256 * r) = Lib.popAux 8 b + Lib.popAux f r := by
    intro f b r hb
    rw [popAux_split 8 f]
    rw [show (b + 256 * r) % 2 ^ 8 = b by omega, show (b + 256 * r) / 2 ^ 8 = r by omega]
  unfold Lib.onesCount by8
  rw [show (64 : Nat) = 8 + 56 by rfl, one _ _ _ h0, show (56 : Nat) = 8 + 48 by rfl, one _ _ _ h1, show (48 : Nat) = 8 + 40 by rfl, one _ _ _ h2, show (40 : Nat) = 8 + 32 by rfl, one _ _ _ h3,
    show (32 : Nat) = 8 + 24 by rfl, one _ _ _ h4, show (24 : Nat) = 8 + 16 by rfl, one _ _ _ h5, show (16 : Nat) = 8 + 8 by rfl, one _ _ _ h6]
  omega

theorem bytes_of (x : Nat) (h : x < 18446744073709551616) : ∃ b0 b1 b2 b3 b4 b5 b6 b7, b0 < 256 ∧ b1 < 256 ∧ b2 < 256 ∧ b3 < 256 ∧ b4 < 256 ∧ b5 < 256 ∧ b6 < 256 ∧ b7 < 256 ∧ x = by8 b0 b1 b2 b3 b4 b5 b6 b7 :=
  ⟨x % 256, x / 256 % 256, x / 65536 % 256, x / 16777216 % 256, x / 4294967296 % 256, x / 1099511627776 % 256, x / 281474976710656 % 256, x / 72057594037927936, by omega, by omega, by omega, by omega, by omega, by omega, by omega, by omega, by unfold by8; omega⟩

def t1 (x : Nat) : Nat := (x / 2 &&& 6148914691236517205) + (x &&& 6148914691236517205)
def t2 (x : Nat) : Nat := (x / 4 &&& 3689348814741910323) + (x &&& 3689348814741910323)
def t3 (x : Nat) : Nat := (x / 16 + x) &&& 1085102592571150095

set_option maxHeartbeats 1000000 in
theorem step1 (b0 b1 b2 b3 b4 b5 b6 b7 : Nat) (h0 : b0 < 256) (h1 : b1 < 256) (h2 : b2 < 256) (h3 : b3 < 256) (h4 : b4 < 256) (h5 : b5 < 256) (h6 : b6 < 256) (h7 : b7 < 256) : t1 (by8 b0 b1 b2 b3 b4 b5 b6 b7) = by8 (f1 b0) (f1 b1) (f1 b2) (f1 b3) (f1 b4) (f1 b5) (f1 b6) (f1 b7) := by
  have hs : by8 b0 b1 b2 b3 b4 b5 b6 b7 / 2 = by8 (b0 / 2 + 128 * (b1 % 2)) (b1 / 2 + 128 * (b2 % 2)) (b2 / 2 + 128 * (b3 % 2)) (b3 / 2 + 128 * (b4 % 2)) (b4 / 2 + 128 * (b5 % 2)) (b5 / 2 + 128 * (b6 % 2)) (b6 / 2 + 128 * (b7 % 2)) (b7 / 2) := by unfold by8; omega
  have E := fun b e (hb : b < 256) (he : e < 2) => byte1 ⟨b, hb⟩ ⟨e, he⟩
  dsimp only at E
  unfold t1
  rw [hs, show (6148914691236517205 : Nat) = by8 85 85 85 85 85 85 85 85 by rfl, and_by8 _ _ _ _ _ _ _ _ _ (by omega) (by omega) (by omega) (by omega) (by omega) (by omega) (by omega) (by omega), and_by8 _ _ _ _ _ _ _ _ _ h0 h1 h2 h3 h4 h5 h6 (by omega),
    E b0 _ h0 (by omega), E b1 _ h1 (by omega), E b2 _ h2 (by omega), E b3 _ h3 (by omega), E b4 _ h4 (by omega), E b5 _ h5 (by omega), E b6 _ h6 (by omega)]
  unfold by8 f1; omega

set_option maxHeartbeats 1000000 in
theorem step2 (b0 b1 b2 b3 b4 b5 b6 b7 : Nat) (h0 : b0 < 256) (h1 : b1 < 256) (h2 : b2 < 256) (h3 : b3 < 256) (h4 : b4 < 256) (h5 : b5 < 256) (h6 : b6 < 256) (h7 : b7 < 256) : t2 (by8 (f1 b0) (f1 b1) (f1 b2) (f1 b3) (f1 b4) (f1 b5) (f1 b6) (f1 b7)) = by8 (f2 b0) (f2 b1) (f2 b2) (f2 b3) (f2 b4) (f2 b5) (f2 b6) (f2 b7) := by
  have L := fun b (hb : b < 256) => byte_le ⟨b, hb⟩
  have g0 := L b0 h0
  have g1 := L b1 h1
  have g2 := L b2 h2
  have g3 := L b3 h3
  have g4 := L b4 h4
  have g5 := L b5 h5
  have g6 := L b6 h6
  have g7 := L b7 h7
  dsimp only at g0 g1 g2 g3 g4 g5 g6 g7
  have E := fun b e (hb : b < 256) (he : e < 4) => byte2 ⟨b, hb⟩ ⟨e, he⟩
  dsimp only at E
  have k2 : ∀ b, f2 b = (f1 b / 4 &&& 51) + (f1 b &&& 51) := fun _ => rfl
  simp only [k2]
  generalize f1 b0 = c0 at *
  generalize f1 b1 = c1 at *
  generalize f1 b2 = c2 at *
  generalize f1 b3 = c3 at *
  generalize f1 b4 = c4 at *
  generalize f1 b5 = c5 at *
  generalize f1 b6 = c6 at *
  generalize f1 b7 = c7 at *
  have hs : by8 c0 c1 c2 c3 c4 c5 c6 c7 / 4 = by8 (c0 / 4 + 64 * (c1 % 4)) (c1 / 4 + 64 * (c2 % 4)) (c2 / 4 + 64 * (c3 % 4)) (c3 / 4 + 64 * (c4 % 4)) (c4 / 4 + 64 * (c5 % 4)) (c5 / 4 + 64 * (c6 % 4)) (c6 / 4 + 64 * (c7 % 4)) (c7 / 4) := by unfold by8; omega
  unfold t2
  rw [hs, show (3689348814741910323 : Nat) = by8 51 51 51 51 51 51 51 51 by rfl, and_by8 _ _ _ _ _ _ _ _ _ (by omega) (by omega) (by omega) (by omega) (by omega) (by omega) (by omega) (by omega), and_by8 _ _ _ _ _ _ _ _ _ g0.1 g1.1 g2.1 g3.1 g4.1 g5.1 g6.1 (by omega),
    E c0 _ g0.1 (by omega), E c1 _ g1.1 (by omega), E c2 _ g2.1 (by omega), E c3 _ g3.1 (by omega), E c4 _ g4.1 (by omega), E c5 _ g5.1 (by omega), E c6 _ g6.1 (by omega)]
  unfold by8; omega

set_option maxHeartbeats 1000000 in
theorem step3 (b0 b1 b2 b3 b4 b5 b6 b7 : Nat) (h0 : b0 < 256) (h1 : b1 < 256) (h2 : b2 < 256) (h3 : b3 < 256) (h4 : b4 < 256) (h5 : b5 < 256) (h6 : b6 < 256) (h7 : b7 < 256) : t3 (by8 (f2 b0) (f2 b1) (f2 b2) (f2 b3) (f2 b4) (f2 b5) (f2 b6) (f2 b7)) = by8 (f3 b0) (f3 b1) (f3 b2) (f3 b3) (f3 b4) (f3 b5) (f3 b6) (f3 b7) := by
  have L := fun b (hb : b < 256) => byte_le ⟨b, hb⟩
  have g0 := L b0 h0
  have g1 := L b1 h1
  have g2 := L b2 h2
  have g3 := L b3 h3
  have g4 := L b4 h4
  have g5 := L b5 h5
  have g6 := L b6 h6
  have g7 := L b7 h7
  dsimp only at g0 g1 g2 g3 g4 g5 g6 g7
  have E := fun b e (hb : b < 256) (he : e < 16) => byte3 ⟨b, hb⟩ ⟨e, he⟩
  dsimp only at E
  have E7 : (f2 b7 / 16 + f2 b7) &&& 15 = f3 b7 := rfl
  have e0 := E b0 (f2 b1 % 16) h0 (by omega)
  have e1 := E b1 (f2 b2 % 16) h1 (by omega)
  have e2 := E b2 (f2 b3 % 16) h2 (by omega)
  have e3 := E b3 (f2 b4 % 16) h3 (by omega)
  have e4 := E b4 (f2 b5 % 16) h4 (by omega)
  have e5 := E b5 (f2 b6 % 16) h5 (by omega)
  have e6 := E b6 (f2 b7 % 16) h6 (by omega)
  rw [← e0, ← e1, ← e2, ← e3, ← e4, ← e5, ← e6, ← E7]
  clear E E7 e0 e1 e2 e3 e4 e5 e6
  generalize f2 b0 = c0 at *
  generalize f2 b1 = c1 at *
  generalize f2 b2 = c2 at *
  generalize f2 b3 = c3 at *
  generalize f2 b4 = c4 at *
  generalize f2 b5 = c5 at *
  generalize f2 b6 = c6 at *
  generalize f2 b7 = c7 at *
  have hs : by8 c0 c1 c2 c3 c4 c5 c6 c7 / 16 + by8 c0 c1 c2 c3 c4 c5 c6 c7 = by8 (c0 / 16 + 16 * (c1 % 16) + c0) (c1 / 16 + 16 * (c2 % 16) + c1) (c2 / 16 + 16 * (c3 % 16) + c2) (c3 / 16 + 16 * (c4 % 16) + c3) (c4 / 16 + 16 * (c5 % 16) + c4) (c5 / 16 + 16 * (c6 % 16) + c5) (c6 / 16 + 16 * (c7 % 16) + c6) (c7 / 16 + c7) := by unfold by8; omega
  unfold t3
  rw [hs, show (1085102592571150095 : Nat) = by8 15 15 15 15 15 15 15 15 by rfl, and_by8 _ _ _ _ _ _ _ _ _ (by omega) (by omega) (by omega) (by omega) (by omega) (by omega) (by omega) (by omega)]

set_option maxHeartbeats 1000000 in
theorem ones_steps (x : Nat) (h : x < 18446744073709551616) : ∃ p0 p1 p2 p3 p4 p5 p6 p7 : Nat, p0 ≤ 8 ∧ p1 ≤ 8 ∧ p2 ≤ 8 ∧ p3 ≤ 8 ∧ p4 ≤ 8 ∧ p5 ≤ 8 ∧ p6 ≤ 8 ∧ p7 ≤ 8 ∧
    t1 x < 18446744073709551616 ∧ t2 (t1 x) < 18446744073709551616 ∧ t2 (t1 x) / 16 + t2 (t1 x) < 18446744073709551616 ∧ t3 (t2 (t1 x)) = by8 p0 p1 p2 p3 p4 p5 p6 p7 ∧ Lib.onesCount x = p0 + p1 + p2 + p3 + p4 + p5 + p6 + p7 := by
  obtain ⟨b0, b1, b2, b3, b4, b5, b6, b7, h0, h1, h2, h3, h4, h5, h6, h7, rfl⟩ := bytes_of x h
  have L := fun b (hb : b < 256) => byte_le ⟨b, hb⟩
  have g0 := L b0 h0
  have g1 := L b1 h1
  have g2 := L b2 h2
  have g3 := L b3 h3
  have g4 := L b4 h4
  have g5 := L b5 h5
  have g6 := L b6 h6
  have g7 := L b7 h7
  dsimp only at g0 g1 g2 g3 g4 g5 g6 g7
  rw [step1 b0 b1 b2 b3 b4 b5 b6 b7 h0 h1 h2 h3 h4 h5 h6 h7, step2 b0 b1 b2 b3 b4 b5 b6 b7 h0 h1 h2 h3 h4 h5 h6 h7, step3 b0 b1 b2 b3 b4 b5 b6 b7 h0 h1 h2 h3 h4 h5 h6 h7, ones_by8 b0 b1 b2 b3 b4 b5 b6 b7 h0 h1 h2 h3 h4 h5 h6 h7]
  have r0 : f1 b0 < 256 ∧ f1 b1 < 256 ∧ f1 b2 < 256 ∧ f1 b3 < 256 ∧ f1 b4 < 256 ∧ f1 b5 < 256 ∧ f1 b6 < 256 ∧ f1 b7 < 256 := ⟨g0.1, g1.1, g2.1, g3.1, g4.1, g5.1, g6.1, g7.1⟩
  refine ⟨f3 b0, f3 b1, f3 b2, f3 b3, f3 b4, f3 b5, f3 b6, f3 b7, g0.2.2.1, g1.2.2.1, g2.2.2.1, g3.2.2.1, g4.2.2.1, g5.2.2.1, g6.2.2.1, g7.2.2.1, ?_, ?_, ?_, rfl, ?_⟩
  · clear g0 g1 g2 g3 g4 g5 g6 g7 h
    unfold by8; omega
  · clear h
    unfold by8; omega
  · clear h r0
    unfold by8; omega
  · rw [g0.2.2.2.1, g1.2.2.2.1, g2.2.2.2.1, g3.2.2.2.1, g4.2.2.2.1, g5.2.2.2.1, g6.2.2.2.1, g7.2.2.2.1]

set_option maxHeartbeats 2000000 in
/-- Bytes of at most 8 each, added up in three steps. -/
theorem sum_by8 (p0 p1 p2 p3 p4 p5 p6 p7 : Nat) (h0 : p0 ≤ 8) (h1 : p1 ≤ 8) (h2 : p2 ≤ 8) (h3 : p3 ≤ 8) (h4 : p4 ≤ 8) (h5 : p5 ≤ 8) (h6 : p6 ≤ 8) (h7 : p7 ≤ 8) (y z u : Nat)
    (hy : y = by8 p0 p1 p2 p3 p4 p5 p6 p7 + by8 p0 p1 p2 p3 p4 p5 p6 p7 / 256) (hz : z = y + y / 65536) (hu : u = z + z / 4294967296) :
    y < 18446744073709551616 ∧ z < 18446744073709551616 ∧ u < 9223372036854775808 ∧ u % 128 = p0 + p1 + p2 + p3 + p4 + p5 + p6 + p7 := by
  have e1 : by8 p0 p1 p2 p3 p4 p5 p6 p7 / 256 = p1 + 256 * (p2 + 256 * (p3 + 256 * (p4 + 256 * (p5 + 256 * (p6 + 256 * p7))))) := by unfold by8; omega
  have y1 : y = by8 (p0 + p1) (p1 + p2) (p2 + p3) (p3 + p4) (p4 + p5) (p5 + p6) (p6 + p7) p7 := by rw [hy, e1]; unfold by8; omega
  clear hy e1
  have e2 : y / 65536 = (p2 + p3) + 256 * ((p3 + p4) + 256 * ((p4 + p5) + 256 * ((p5 + p6) + 256 * ((p6 + p7) + 256 * p7)))) := by rw [y1]; unfold by8; omega
  have z1 : z = by8 (p0 + p1 + p2 + p3) (p1 + p2 + p3 + p4) (p2 + p3 + p4 + p5) (p3 + p4 + p5 + p6) (p4 + p5 + p6 + p7) (p5 + p6 + p7) (p6 + p7) p7 := by rw [hz, e2, y1]; unfold by8; omega
  clear hz e2
  have e3 : z / 4294967296 = (p4 + p5 + p6 + p7) + 256 * ((p5 + p6 + p7) + 256 * ((p6 + p7) + 256 * p7)) := by rw [z1]; unfold by8; omega
  have u1 : u = by8 (p0 + p1 + p2 + p3 + p4 + p5 + p6 + p7) (p1 + p2 + p3 + p4 + p5 + p6 + p7) (p2 + p3 + p4 + p5 + p6 + p7) (p3 + p4 + p5 + p6 + p7) (p4 + p5 + p6 + p7) (p5 + p6 + p7) (p6 + p7) p7 := by rw [hu, e3, z1]; unfold by8; omega
  clear hu e3
  unfold by8 at y1 z1 u1
  refine ⟨by clear z1 u1; omega, by clear y1 u1; omega, by clear y1 z1; omega, ?_⟩
  clear y1 z1; rw [u1]; omega
end Bt
end Go.Proofs.YtfmkiioahnphbaaDoor

namespace Go.Proofs
open Go.Shelf
def Tryd.lays129_ren : Go.Shelf.Ren := ⟨fun | 129 => 93 | n => n, fun | 53 => 31 | 3 => 3 | 4 => 4 | 46 => 110 | 5 => 5 | 9 => 9 | n => n, fun | n => n⟩
theorem Tryd.lays129 : Go.Proofs.Lays.n129 Tryd.prog Tryd.lays129_ren := {
  mixed := by kernel_rfl
  f129 := Tryd.func93.trans (congrArg some (by kernel_rfl))
  t3 := Tryd.underlying3
  a3 := Tryd.isAgg3
  z3 := Tryd.sizeOf3
  v3 := Tryd.zeroValue3
  t4 := Tryd.underlying4
  a4 := Tryd.isAgg4
  z4 := Tryd.sizeOf4
  v4 := Tryd.zeroValue4
  t5 := Tryd.underlying5
  a5 := Tryd.isAgg5
  z5 := Tryd.sizeOf5
  v5 := Tryd.zeroValue5
  t9 := Tryd.underlying9
  a9 := Tryd.isAgg9
  z9 := Tryd.sizeOf9
  v9 := Tryd.zeroValue9
  t46 := Tryd.underlying110
  a46 := Tryd.isAgg110
  z46 := Tryd.sizeOf110
  v46 := Tryd.zeroValue110
  t53 := Tryd.underlying31
  a53 := Tryd.isAgg31
  z53 := Tryd.sizeOf31
  v53 := Tryd.zeroValue31 }
/-- bits.Len64: "Len64 returns the minimum number of bits required to represent x; the result is 0 for x == 0.": IT RETURNS 'Lib.bitLen x'; the world is as it was. ('h0', 'h1': x is a uint64.) (LAID: no walk: one application.) -/
theorem Tryd.bits_Len64 (x : Int) (w : World) (h0 : 0 ≤ x) (h1 : x ≤ 18446744073709551615) :
    Calls Tryd.prog 93 #[.int .u64 x] w fun e w' => e = .returned (.int .i64 (Lib.bitLen x.toNat)) ∧ w' = w := Any.bits_Len64 Tryd.lays129 x w h0 h1
end Go.Proofs

namespace Go.Proofs.YtfmkiioahnphbaaDoor
open Go Go.RowKit

theorem okK_nat {k : Nat} (h : k < 64) : Bt.okK (k : Int) = true := by unfold Bt.okK; simp; omega
theorem okK_cases (k : Int) : (∃ n : Nat, k = n ∧ n < 64) ∨ (k < 0 ∧ Bt.okK k = false) ∨ (64 ≤ k ∧ 0 ≤ k ∧ Bt.okK k = false) := by
  rcases Int.lt_or_le k 0 with h | h
  · exact .inr (.inl ⟨h, by unfold Bt.okK; simp; omega⟩)
  · rcases Int.lt_or_le k 64 with h2 | h2
    · exact .inl ⟨k.toNat, by omega, by omega⟩
    · exact .inr (.inr ⟨h2, h, by unfold Bt.okK; simp; omega⟩)

theorem shr_nat (N k : Nat) : (N : Int) / 2 ^ k = ((N / 2 ^ k : Nat) : Int) := by
  rw [show (2 : Int) ^ k = ((2 ^ k : Nat) : Int) by simp]; rfl
theorem has_bit (N k : Nat) (hN : N < 18446744073709551616) : (bits .and .u64 ((N : Int) / 2 ^ k) 1 == 1) = N.testBit k := by
  have hl : N / 2 ^ k < 18446744073709551616 := Nat.lt_of_le_of_lt (Nat.div_le_self _ _) hN
  rw [shr_nat, show (1 : Int) = ((1 : Nat) : Int) by rfl, u64_and_nat _ _ hl (by omega), nat_mask1, Nat.testBit_eq_decide_div_mod_eq]
  rw [Bool.eq_iff_iff]
  simp only [beq_iff_eq, decide_eq_true_eq]
  omega
theorem pow_wrap (k : Nat) (hk : k < 64) : IntKind.u64.wrap (2 ^ k) = ((2 ^ k : Nat) : Int) := by
  have := Bt.pow_lt k hk
  rw [show (2 : Int) ^ k = ((2 ^ k : Nat) : Int) by simp, IntKind.wrap_u64]
  generalize 2 ^ k = m at *
  omega
theorem or_pow (N k : Nat) (hN : N < 18446744073709551616) (hk : k < 64) : bits .or .u64 (N : Int) (IntKind.u64.wrap (2 ^ k)) = ((Bt.set N (k : Int) : Nat) : Int) := by
  rw [pow_wrap k hk, u64_or_nat _ _ hN (Bt.pow_lt k hk)]
  unfold Bt.set; rw [if_pos (okK_nat hk), Int.toNat_natCast]
theorem andNot_pow (N k : Nat) (hN : N < 18446744073709551616) (hk : k < 64) : bits .andNot .u64 (N : Int) (IntKind.u64.wrap (2 ^ k)) = ((Bt.clear N (k : Int) : Nat) : Int) := by
  rw [pow_wrap k hk, u64_andNot_nat _ _ hN (Bt.pow_lt k hk)]
  unfold Bt.clear; rw [if_pos (okK_nat hk), Int.toNat_natCast]

theorem has_call (N : Nat) (hN : N < 18446744073709551616) (k : Int) (w : World) :
    Calls Tryd.prog 25 #[.int .u64 N, .int .i64 k] w fun e w' => e = .returned (.bool (Bt.has N k)) ∧ w = w' := by
  rcases okK_cases k with ⟨n, rfl, hn⟩ | ⟨h0, _⟩ | ⟨h0, h1, _⟩
  · have hb := has_bit N n hN
    have he : Bt.has N (n : Int) = N.testBit n := by unfold Bt.has; simp; omega
    rw [he]
    clear he hN
    generalize N.testBit n = t at *
    go_enter Tryd.func25, Tryd.ntmps25
    go_wp2
    go_ret
    exact ⟨rfl, rfl⟩
  · have he : Bt.has N k = false := by unfold Bt.has; simp; omega
    rw [he]
    have d0 : decide (0 ≤ k) = false := leF h0
    clear he hN
    go_enter Tryd.func25, Tryd.ntmps25
    go_wp2
    go_ret
    exact ⟨rfl, rfl⟩
  · have he : Bt.has N k = false := by unfold Bt.has; simp; omega
    rw [he]
    have d0 : decide (0 ≤ k) = true := leT h1
    have d1 : decide (k < 64) = false := ltF h0
    clear he hN
    go_enter Tryd.func25, Tryd.ntmps25
    go_wp2
    go_ret
    exact ⟨rfl, rfl⟩

theorem set_call (N : Nat) (hN : N < 18446744073709551616) (k : Int) (w : World) :
    Calls Tryd.prog 65 #[.int .u64 N, .int .i64 k] w fun e w' => e = .returned (.tuple #[.int .u64 (Bt.set N k : Nat), .int .i64 (Bt.err k)]) ∧ w = w' := by
  rcases okK_cases k with ⟨n, rfl, hn⟩ | ⟨h0, he⟩ | ⟨h0, h1, he⟩
  · have hb := or_pow N n hN hn
    have he : Bt.err (n : Int) = 0 := by unfold Bt.err; rw [okK_nat hn]; rfl
    rw [he]
    clear he hN
    generalize Bt.set N (n : Int) = t at *
    go_enter Tryd.func65, Tryd.ntmps65
    go_wp2
    go_ret2
    exact ⟨rfl, rfl⟩
  · have h2 : Bt.set N k = 0 ∧ Bt.err k = 2 := by unfold Bt.set Bt.err; rw [he]; exact ⟨rfl, rfl⟩
    rw [h2.1, h2.2]
    have d0 : decide (k < 0) = true := ltT h0
    clear he hN h2
    go_enter Tryd.func65, Tryd.ntmps65
    go_wp2
    go_ret2
    exact ⟨rfl, rfl⟩
  · have h2 : Bt.set N k = 0 ∧ Bt.err k = 2 := by unfold Bt.set Bt.err; rw [he]; exact ⟨rfl, rfl⟩
    rw [h2.1, h2.2]
    have d0 : decide (k < 0) = false := ltF h1
    have d1 : decide (64 ≤ k) = true := leT h0
    clear he hN h2
    go_enter Tryd.func65, Tryd.ntmps65
    go_wp2
    go_ret2
    exact ⟨rfl, rfl⟩

theorem clear_call (N : Nat) (hN : N < 18446744073709551616) (k : Int) (w : World) :
    Calls Tryd.prog 67 #[.int .u64 N, .int .i64 k] w fun e w' => e = .returned (.tuple #[.int .u64 (Bt.clear N k : Nat), .int .i64 (Bt.err k)]) ∧ w = w' := by
  rcases okK_cases k with ⟨n, rfl, hn⟩ | ⟨h0, he⟩ | ⟨h0, h1, he⟩
  · have hb := andNot_pow N n hN hn
    have he : Bt.err (n : Int) = 0 := by unfold Bt.err; rw [okK_nat hn]; rfl
    rw [he]
    clear he hN
    generalize Bt.clear N (n : Int) = t at *
    go_enter Tryd.func67, Tryd.ntmps67
    go_wp2
    go_ret2
    exact ⟨rfl, rfl⟩
  · have h2 : Bt.clear N k = 0 ∧ Bt.err k = 2 := by unfold Bt.clear Bt.err; rw [he]; exact ⟨rfl, rfl⟩
    rw [h2.1, h2.2]
    have d0 : decide (k < 0) = true := ltT h0
    clear he hN h2
    go_enter Tryd.func67, Tryd.ntmps67
    go_wp2
    go_ret2
    exact ⟨rfl, rfl⟩
  · have h2 : Bt.clear N k = 0 ∧ Bt.err k = 2 := by unfold Bt.clear Bt.err; rw [he]; exact ⟨rfl, rfl⟩
    rw [h2.1, h2.2]
    have d0 : decide (k < 0) = false := ltF h1
    have d1 : decide (64 ≤ k) = true := leT h0
    clear he hN h2
    go_enter Tryd.func67, Tryd.ntmps67
    go_wp2
    go_ret2
    exact ⟨rfl, rfl⟩

theorem full_call (n : Int) (w : World) :
    Calls Tryd.prog 45 #[.int .i64 n] w fun e w' => e = .returned (.int .u64 (Bt.full n : Nat)) ∧ w = w' := by
  rcases okK_cases n with ⟨k, rfl, hk⟩ | ⟨h0, _⟩ | ⟨h0, h1, _⟩
  · have hb : IntKind.u64.wrap (IntKind.u64.wrap (2 ^ k) - 1) = ((Bt.full (k : Int) : Nat) : Int) := by
      have hc : Bt.cl (k : Int) = k := by unfold Bt.cl; omega
      have := Bt.pow_lt k hk
      have := Nat.two_pow_pos k
      unfold Bt.full
      rw [pow_wrap k hk, hc, IntKind.wrap_u64]; omega
    generalize Bt.full (k : Int) = t at *
    go_enter Tryd.func45, Tryd.ntmps45
    go_wp2
    go_ret
    exact ⟨rfl, rfl⟩
  · have hf : Bt.full n = 0 := by
      have hc : Bt.cl n = 0 := by unfold Bt.cl; omega
      unfold Bt.full; rw [hc]
    have hm : max n 0 = 0 := by omega
    rw [hf]
    clear hf
    go_enter Tryd.func45, Tryd.ntmps45
    go_wp2
    go_ret
    exact ⟨rfl, rfl⟩
  · have hf : Bt.full n = 18446744073709551615 := by
      have hc : Bt.cl n = 64 := by unfold Bt.cl; omega
      unfold Bt.full; rw [hc]
    rw [hf]
    have d1 : decide (64 ≤ n) = true := leT h0
    clear hf
    go_enter Tryd.func45, Tryd.ntmps45
    go_wp2
    go_ret
    exact ⟨rfl, rfl⟩

theorem cutword (N : Nat) (hN : N < 18446744073709551616) (n : Int) : bits .and .u64 (N : Int) ((Bt.full n : Nat) : Int) = ((Bt.cut N n : Nat) : Int) := by
  have hf : Bt.full n < 18446744073709551616 := by
    have := Bt.pow_le _ (Bt.cl_le n)
    have := Nat.two_pow_pos (Bt.cl n)
    unfold Bt.full; omega
  rw [u64_and_nat _ _ hN hf]
  unfold Bt.full Bt.cut
  rw [Nat.and_two_pow_sub_one_eq_mod]

theorem cut1_call (N : Nat) (hN : N < 18446744073709551616) (n : Int) (a : Addr) (w : World) (hc : w.cell? a = some (.int .u64 (Bt.full n : Nat))) :
    Calls Tryd.prog 79 #[.int .u64 N, .pointer (some a)] w fun e w' => e = .returned (.int .u64 (Bt.cut N n : Nat)) ∧ w = w' := by
  have hb := cutword N hN n
  clear hN
  generalize Bt.full n = m at *
  generalize Bt.cut N n = t at *
  go_enter Tryd.func79, Tryd.ntmps79
  go_wp2
  go_ret
  exact ⟨rfl, rfl⟩

theorem cut_call (n : Int) (w : World) :
    Calls Tryd.prog 74 #[.int .i64 n] w fun e w' => e = .returned (.func (.func 79) #[] #[.pointer (some ⟨w.heap.size, 0, none⟩)]) ∧ w.alloc (.cells #[.int .u64 (Bt.full n : Nat)] 31) = w' := by
  have hf := full_call n w
  generalize Bt.full n = m at *
  go_enter Tryd.func74, Tryd.ntmps74
  go_wp2_with ((with_reducible refine hf.mono ?_); rintro e w' ⟨rfl, rfl⟩)
  go_ret
  exact ⟨rfl, rfl⟩

theorem len_call (N : Nat) (hN : N < 18446744073709551616) (w : World) :
    Calls Tryd.prog 93 #[.int .u64 N] w fun e w' => e = .returned (.int .i64 (Lib.bitLen N)) ∧ w = w' :=
  (Tryd.bits_Len64 (N : Int) w (by omega) (by omega)).mono fun e w' ⟨he, hw⟩ => ⟨by rw [he, Int.toNat_natCast], hw.symm⟩

/-- The table of math/bits holds what its initialiser lays. -/
def Tab64 (w : World) : Prop := ∀ j, j < 64 → w.cell? ⟨0, j, none⟩ = some (.int .u8 (Lib.deBruijn64tab.getD j 0 : Nat))

theorem ctz_zero (w : World) : Calls Tryd.prog 75 #[.int .u64 0] w fun e w' => e = .returned (.int .i64 64) ∧ w = w' := by
  go_enter Tryd.func75, Tryd.ntmps75
  go_wp2
  go_ret
  exact ⟨rfl, rfl⟩

theorem ctz_walk (N idx r : Nat) (w : World) (h1 : ((N : Int) == 0) = false)
    (hk : IntKind.u64.wrap (bits BinOp.and IntKind.u64 (N : Int) (IntKind.u64.wrap (-(N : Int))) * 285870213051353865) / 288230376151711744 = (idx : Int)) (hi : idx < 64)
    (hc : w.cell? ⟨0, idx, none⟩ = some (.int .u8 (r : Int))) (hlt : r < 64) :
    Calls Tryd.prog 75 #[.int .u64 N] w fun e w' => e = .returned (.int .i64 (r : Int)) ∧ w = w' := by
  go_enter Tryd.func75, Tryd.ntmps75
  go_wp2
  go_ret
  exact ⟨rfl, rfl⟩

theorem ctz_call (N : Nat) (hN : N < 18446744073709551616) (h0 : N ≠ 0) (w : World) (hT : Tab64 w) :
    Calls Tryd.prog 75 #[.int .u64 N] w fun e w' => e = .returned (.int .i64 (Lib.ctz 64 N)) ∧ w = w' := by
  have hl := Lib.lowest_bit 64 N h0 hN
  have hd := Lib.deBruijn64_at (Lib.ctz 64 N) hl.2
  have hc := hT _ hd.1
  rw [hd.2] at hc
  exact ctz_walk N _ _ w (beqF (by omega)) (tz64_key N _ hN h0 hl.1) hd.1 hc hl.2

theorem and127 (x : Nat) (h : x < 9223372036854775808) : bits .and .i64 (wrap64 (x : Int)) 127 = ((x % 128 : Nat) : Int) := by
  have hw : wrap64 (x : Int) = x := by unfold wrap64; omega
  rw [hw]
  have e : (BitVec.ofInt 64 (x : Int) &&& BitVec.ofInt 64 127).toNat = x % 128 := by
    rw [BitVec.toNat_and, ofInt_u64 x (by omega)]
    exact Nat.and_two_pow_sub_one_eq_mod x 7
  show IntKind.i64.wrap (((BitVec.ofInt 64 (x : Int) &&& BitVec.ofInt 64 127).toNat : Nat) : Int) = _
  rw [e, IntKind.wrap_i64]; omega

theorem wrap_nat (x : Nat) (h : x < 18446744073709551616) : IntKind.u64.wrap (x : Int) = x := by rw [IntKind.wrap_u64]; omega
theorem and_nat' (x m : Nat) (hx : x < 18446744073709551616) (hm : m < 18446744073709551616) : bits .and .u64 (x : Int) (m : Int) = ((x &&& m : Nat) : Int) := u64_and_nat x m hx hm

end Go.Proofs.YtfmkiioahnphbaaDoor

namespace Go.Proofs.YtfmkiioahnphbaaDoor
open Go Go.RowKit

theorem xor_ones (N : Nat) (hN : N < 18446744073709551616) : bits BinOp.xor IntKind.u64 IntKind.u64.max (N : Int) = ((18446744073709551615 - N : Nat) : Int) := by
  rw [show IntKind.u64.max = ((18446744073709551615 : Nat) : Int) by rfl, u64_xor_nat _ _ (by omega) hN]
  congr 1
  apply Nat.eq_of_testBit_eq
  intro i
  rw [Nat.testBit_xor, Bt.compl_testBit hN]
  have h1 : Nat.testBit 18446744073709551615 i = decide (i < 64) := Nat.testBit_two_pow_sub_one 64 i
  rw [h1]
  by_cases hi : i < 64
  · simp [hi]
  · rw [Bt.testBit_ge hN (by omega)]; simp [hi]

theorem Tab64.mod {w w' : World} (h : Tab64 w) (hm : Mod (fun _ => False) w w') : Tab64 w' := fun j hj => hm.cell (h j hj) (fun x => x)

theorem free_walk (N M C : Nat) (n r : Int) (w : World) (F : Nat)
    (hf : Calls Tryd.prog 74 #[.int .i64 n] w fun e w' => e = .returned (.func (.func 79) #[] #[.pointer (some ⟨w.heap.size, 0, none⟩)]) ∧ w.alloc (.cells #[.int .u64 (F : Nat)] 31) = w')
    (hx : bits BinOp.xor IntKind.u64 IntKind.u64.max (N : Int) = (M : Int))
    (h1 : Calls Tryd.prog 79 #[.int .u64 M, .pointer (some ⟨w.heap.size, 0, none⟩)] (w.alloc (.cells #[.int .u64 (F : Nat)] 31)) fun e w' => e = .returned (.int .u64 (C : Nat)) ∧ w.alloc (.cells #[.int .u64 (F : Nat)] 31) = w')
    (hc : C = 0 ∧ r = -1 ∨ ((C : Int) == 0) = false ∧ Calls Tryd.prog 75 #[.int .u64 C] (w.alloc (.cells #[.int .u64 (F : Nat)] 31)) fun e w' => e = .returned (.int .i64 r) ∧ w.alloc (.cells #[.int .u64 (F : Nat)] 31) = w') :
    Calls Tryd.prog 64 #[.int .u64 N, .int .i64 n] w fun e w' => e = .returned (.int .i64 r) ∧ w.alloc (.cells #[.int .u64 (F : Nat)] 31) = w' := by
  rcases hc with ⟨rfl, rfl⟩ | ⟨hz, hc⟩
  · go_enter Tryd.func64, Tryd.ntmps64
    go_wp2_with fail
    refine hf.mono ?_
    rintro e w' ⟨rfl, rfl⟩
    go_wp2_with fail
    refine h1.mono ?_
    rintro e w' ⟨rfl, rfl⟩
    clear h1 hf
    go_wp2
    go_ret
    exact ⟨rfl, rfl⟩
  · go_enter Tryd.func64, Tryd.ntmps64
    go_wp2_with fail
    refine hf.mono ?_
    rintro e w' ⟨rfl, rfl⟩
    go_wp2_with fail
    refine h1.mono ?_
    rintro e w' ⟨rfl, rfl⟩
    clear h1 hf
    go_wp2_with fail
    refine hc.mono ?_
    rintro e w' ⟨rfl, rfl⟩
    go_wp2
    go_ret
    exact ⟨rfl, rfl⟩

theorem free_call (N : Nat) (hN : N < 18446744073709551616) (n : Int) (w : World) (hT : Tab64 w) :
    Calls Tryd.prog 64 #[.int .u64 N, .int .i64 n] w fun e w' => e = .returned (.int .i64 (Bt.free N n)) ∧ Mod (fun _ => False) w w' := by
  have hm : Mod (fun _ => False) w (w.alloc (.cells #[.int .u64 (Bt.full n : Nat)] 31)) := (Mod.refl _ w).alloc _
  have h1 := cut1_call (18446744073709551615 - N) (by omega) n ⟨w.heap.size, 0, none⟩ (w.alloc (.cells #[.int .u64 (Bt.full n : Nat)] 31)) (by rw [cell_at (heap_alloc_new w _)]; rfl)
  refine (free_walk N (18446744073709551615 - N) (Bt.cut (18446744073709551615 - N) n) n (Bt.free N n) w (Bt.full n) (cut_call n w) (xor_ones N hN) h1 ?_).mono fun e w' ⟨he, hw⟩ => ⟨he, hw ▸ hm⟩
  unfold Bt.free
  by_cases h0 : Bt.cut (18446744073709551615 - N) n = 0
  · exact .inl ⟨h0, by rw [if_pos h0]⟩
  · rw [if_neg h0]
    exact .inr ⟨beqF (by omega), ctz_call _ (Bt.cut_lt _ _) h0 _ (hT.mod hm)⟩

end Go.Proofs.YtfmkiioahnphbaaDoor

namespace Go.Proofs.YtfmkiioahnphbaaDoor
open Go Go.RowKit

end Go.Proofs.YtfmkiioahnphbaaDoor
