/- The plain law of package text: a text's words; its bytes back from them. No program stands here. No condition. -/
import Derived.Test.YtpcomekikeoliaaGreatDoorGround
set_option linter.unusedVariables false
set_option linter.unusedSimpArgs false
set_option maxRecDepth 100000
namespace Go.Proofs.YtpcomekikeoliaaGreatDoor
open Go

namespace Txt
/-- A byte of a text; 0 behind its end. -/
def byteAt (s : ByteArray) (i : Nat) : Nat := (s.data[i]?.map (·.toNat)).getD 0
theorem byteAt_lt (s : ByteArray) (i : Nat) : byteAt s i < 256 := by
  unfold byteAt
  cases s.data[i]? with
  | none => decide
  | some b => exact b.toNat_lt
theorem byteAt_ge {s : ByteArray} {i : Nat} (h : s.size ≤ i) : byteAt s i = 0 := by
  unfold byteAt
  rw [Array.getElem?_eq_none (show s.data.size ≤ i from h)]
  rfl
/-- Bytes laid from the top of a word on. -/
def ps (f : Nat → Nat) : Nat → Nat
  | 0 => 0
  | n + 1 => ps f n + f n * 256 ^ (7 - n)
theorem ps_form {f : Nat → Nat} (hf : ∀ t, f t < 256) : ∀ n, n ≤ 8 → ∃ q, ps f n = q * 256 ^ (8 - n) ∧ q < 256 ^ n
  | 0, _ => ⟨0, by simp [ps], by simp⟩
  | n + 1, h => by
    obtain ⟨q, h1, h2⟩ := ps_form hf n (by omega)
    refine ⟨q * 256 + f n, ?_, ?_⟩
    · show ps f n + f n * 256 ^ (7 - n) = _
      rw [h1, show 8 - n = (7 - n) + 1 by omega, show 8 - (n + 1) = 7 - n by omega, Nat.pow_succ, Nat.add_mul]
      congr 1
      rw [Nat.mul_assoc, Nat.mul_comm (256 ^ (7 - n)) 256]
    · have := hf n
      rw [Nat.pow_succ]
      omega
theorem ps_lt {f : Nat → Nat} (hf : ∀ t, f t < 256) (n : Nat) (h : n ≤ 8) : ps f n < 18446744073709551616 := by
  obtain ⟨q, h1, h2⟩ := ps_form hf n h
  rw [h1]
  have h3 : q * 256 ^ (8 - n) < 256 ^ n * 256 ^ (8 - n) := Nat.mul_lt_mul_of_pos_right h2 (Nat.pow_pos (by omega))
  rw [← Nat.pow_add, show n + (8 - n) = 8 by omega] at h3
  exact h3
theorem ps_tail {f : Nat → Nat} {n : Nat} (h : ∀ t, n ≤ t → f t = 0) : ∀ m, n ≤ m → ps f m = ps f n
  | 0, hm => by
    have : n = 0 := by omega
    rw [this]
  | m + 1, hm => by
    by_cases e : n = m + 1
    · rw [e]
    · show ps f m + f m * _ = _
      rw [h m (by omega), ps_tail h m (by omega)]
      omega
/-- A byte back. -/
theorem ps_byte {f : Nat → Nat} (hf : ∀ t, f t < 256) {t : Nat} (ht : t < 8) : ps f 8 / 256 ^ (7 - t) % 256 = f t := by
  have h0 := hf 0; have h1 := hf 1; have h2 := hf 2; have h3 := hf 3; have h4 := hf 4; have h5 := hf 5; have h6 := hf 6; have h7 := hf 7
  have e : ps f 8 = f 0 * 72057594037927936 + f 1 * 281474976710656 + f 2 * 1099511627776 + f 3 * 4294967296 + f 4 * 16777216 + f 5 * 65536 + f 6 * 256 + f 7 := by
    simp [ps]
  rw [e]
  match t, ht with
  | 0, _ => show _ / 72057594037927936 % 256 = _; omega
  | 1, _ => show _ / 281474976710656 % 256 = _; omega
  | 2, _ => show _ / 1099511627776 % 256 = _; omega
  | 3, _ => show _ / 4294967296 % 256 = _; omega
  | 4, _ => show _ / 16777216 % 256 = _; omega
  | 5, _ => show _ / 65536 % 256 = _; omega
  | 6, _ => show _ / 256 % 256 = _; omega
  | 7, _ => show _ / 1 % 256 = _; omega
/-- One byte more: as 'or' has it. -/
theorem ps_or {f : Nat → Nat} (hf : ∀ t, f t < 256) {n : Nat} (h : n < 8) : ps f n ||| (f n * 256 ^ (7 - n)) = ps f (n + 1) := by
  obtain ⟨q, h1, h2⟩ := ps_form hf n (by omega)
  have e : (256 : Nat) ^ (8 - n) = 2 ^ (8 * (8 - n)) := by rw [show (256 : Nat) = 2 ^ 8 from rfl, ← Nat.pow_mul]
  show _ = ps f n + _
  rw [h1, e, Nat.mul_comm q, ← Nat.two_pow_add_eq_or_of_lt]
  rw [← e, show 8 - n = (7 - n) + 1 by omega, Nat.pow_succ, Nat.mul_comm (256 ^ (7 - n)) 256]
  exact Nat.mul_lt_mul_of_pos_right (hf n) (Nat.pow_pos (by omega))

def wordTo (s : ByteArray) (i j : Nat) : Nat := ps (fun t => byteAt s (8 * j + t)) (min (i - 8 * j) 8)
def wordAt (s : ByteArray) (j : Nat) : Nat := ps (fun t => byteAt s (8 * j + t)) 8
/-- A text's words; and what of them is laid behind the first i bytes. -/
def tw (s : ByteArray) : List Int := (s.size : Int) :: (List.range ((s.size + 7) / 8)).map fun j => (wordAt s j : Int)
def twTo (s : ByteArray) (i : Nat) : List Int := (s.size : Int) :: (List.range ((s.size + 7) / 8)).map fun j => (wordTo s i j : Int)
theorem tw_len (s : ByteArray) : (tw s).length = 1 + (s.size + 7) / 8 := by simp [tw]; omega
theorem twTo_len (s : ByteArray) (i : Nat) : (twTo s i).length = 1 + (s.size + 7) / 8 := by simp [twTo]; omega
theorem twTo_zero (s : ByteArray) : twTo s 0 = (s.size : Int) :: List.replicate ((s.size + 7) / 8) 0 := by
  unfold twTo wordTo
  congr 1
  rw [List.eq_replicate_iff]
  refine ⟨by simp, fun x hx => ?_⟩
  obtain ⟨j, _, rfl⟩ := List.mem_map.1 hx
  simp [ps]
theorem twTo_all (s : ByteArray) : twTo s s.size = tw s := by
  unfold twTo tw
  congr 1
  refine List.map_congr_left fun j hj => ?_
  congr 1
  unfold wordTo wordAt
  by_cases h : s.size - 8 * j ≤ 8
  · rw [Nat.min_eq_left h]
    exact (ps_tail (fun t ht => byteAt_ge (by omega)) 8 h).symm
  · rw [Nat.min_eq_right (by omega)]
theorem wordTo_lt (s : ByteArray) (i j : Nat) : wordTo s i j < 18446744073709551616 := ps_lt (fun _ => byteAt_lt _ _) _ (Nat.min_le_right _ _)
theorem wordAt_lt (s : ByteArray) (j : Nat) : wordAt s j < 18446744073709551616 := ps_lt (fun _ => byteAt_lt _ _) _ (Nat.le_refl _)
theorem wordTo_succ (s : ByteArray) (i : Nat) : wordTo s i (i / 8) ||| (byteAt s i * 256 ^ (7 - i % 8)) = wordTo s (i + 1) (i / 8) := by
  unfold wordTo
  rw [show min (i - 8 * (i / 8)) 8 = i % 8 by omega, show min (i + 1 - 8 * (i / 8)) 8 = i % 8 + 1 by omega]
  have := ps_or (f := fun t => byteAt s (8 * (i / 8) + t)) (fun _ => byteAt_lt _ _) (n := i % 8) (by omega)
  rw [show 8 * (i / 8) + i % 8 = i by omega] at this
  exact this
theorem wordTo_other (s : ByteArray) {i j : Nat} (h : j ≠ i / 8) : wordTo s (i + 1) j = wordTo s i j := by
  unfold wordTo
  by_cases hj : j < i / 8
  · rw [show min (i + 1 - 8 * j) 8 = min (i - 8 * j) 8 by omega]
  · rw [show min (i + 1 - 8 * j) 8 = min (i - 8 * j) 8 by omega]
theorem twTo_get {s : ByteArray} {i j : Nat} (hj : j < (s.size + 7) / 8) : (twTo s i)[1 + j]? = some (wordTo s i j : Int) := by
  unfold twTo
  rw [show 1 + j = j + 1 by omega, List.getElem?_cons_succ, List.getElem?_map, List.getElem?_range hj]
  rfl
theorem twTo_succ {s : ByteArray} {i : Nat} (hi : i < s.size) : twTo s (i + 1) = (twTo s i).set (1 + i / 8) (wordTo s (i + 1) (i / 8) : Int) := by
  apply List.ext_getElem?
  intro k
  rw [List.getElem?_set, twTo_len]
  by_cases hk : 1 + i / 8 = k
  · subst hk
    rw [if_pos rfl, if_pos (by omega), twTo_get (by omega)]
  · rw [if_neg hk]
    match k with
    | 0 => rfl
    | j + 1 =>
      by_cases hj : j < (s.size + 7) / 8
      · rw [show j + 1 = 1 + j by omega, twTo_get hj, twTo_get hj, wordTo_other s (by omega)]
      · rw [List.getElem?_eq_none (by rw [twTo_len]; omega), List.getElem?_eq_none (by rw [twTo_len]; omega)]
theorem tw_get {s : ByteArray} {j : Nat} (hj : j < (s.size + 7) / 8) : (tw s)[1 + j]? = some (wordAt s j : Int) := by
  unfold tw
  rw [show 1 + j = j + 1 by omega, List.getElem?_cons_succ, List.getElem?_map, List.getElem?_range hj]
  rfl
theorem tw_range (s : ByteArray) (h : s.size < 18446744073709551616) : ∀ x ∈ tw s, 0 ≤ x ∧ x < 18446744073709551616 := fun x hx => by
  unfold tw at hx
  rcases List.mem_cons.1 hx with rfl | hx
  · omega
  · obtain ⟨j, _, rfl⟩ := List.mem_map.1 hx
    have := wordAt_lt s j
    omega
theorem byte_back (s : ByteArray) (i : Nat) : wordAt s (i / 8) / 256 ^ (7 - i % 8) % 256 = byteAt s i := by
  have := ps_byte (f := fun t => byteAt s (8 * (i / 8) + t)) (fun _ => byteAt_lt _ _) (t := i % 8) (by omega)
  rw [show 8 * (i / 8) + i % 8 = i by omega] at this
  exact this
end Txt
end Go.Proofs.YtpcomekikeoliaaGreatDoor
