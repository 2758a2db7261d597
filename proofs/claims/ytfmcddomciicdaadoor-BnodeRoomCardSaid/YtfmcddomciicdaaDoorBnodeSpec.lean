/- The plain law of package bnode: a B-tree's node, and its words. No program stands here. No condition. -/
import Derived.Test.YtfmcddomciicdaaDoorGround
set_option linter.unusedVariables false
set_option linter.unusedSimpArgs false
set_option maxRecDepth 100000
namespace Go.Proofs.YtfmcddomciicdaaDoor
open Go

/-- A node. -/
structure Nd where
  keys : List Int
  vals : List Int
  kids : List Int
  size : Int

namespace Nd
def kidsB (x : Nd) : Bool := (x.kids.length == 0) || ((x.kids.length == x.keys.length + 1) && !decide ((0 : Int) ∈ x.kids))
def degB (t : Int) : Bool := decide (2 ≤ t) && decide (t ≤ 16)
def fitB (t : Int) (x : Nd) : Bool := degB t && decide ((x.keys.length : Int) ≤ 2 * t - 1) && (x.vals.length == x.keys.length) && x.kidsB
/-- Its words: what stands when so much is laid. -/
def w0 (t : Nat) (x : Nd) : List Int := ((List.replicate (6 * t) 0).set 0 (x.keys.length : Int)).set 1 x.size
def wK (t : Nat) (x : Nd) : Nat → List Int
  | 0 => w0 t x
  | k + 1 => ((wK t x k).set (2 + 2 * k) (x.keys.getD k 0)).set (2 + 2 * k + 1) (x.vals.getD k 0)
def wC (t : Nat) (x : Nd) : Nat → List Int
  | 0 => wK t x x.keys.length
  | k + 1 => (wC t x k).set (4 * t + k) (x.kids.getD k 0)
def ws (t : Nat) (x : Nd) : List Int := wC t x x.kids.length
theorem w0_len (t : Nat) (x : Nd) : (w0 t x).length = 6 * t := by simp [w0]
theorem wK_len (t : Nat) (x : Nd) : ∀ k, (wK t x k).length = 6 * t
  | 0 => w0_len t x
  | k + 1 => by simp [wK, wK_len t x k]
theorem wC_len (t : Nat) (x : Nd) : ∀ k, (wC t x k).length = 6 * t
  | 0 => wK_len t x _
  | k + 1 => by simp [wC, wC_len t x k]
theorem ws_len (t : Nat) (x : Nd) : (ws t x).length = 6 * t := wC_len t x _
/-- All its words are words. -/
structure Ok (x : Nd) : Prop where
  keys : ∀ k ∈ x.keys, 0 ≤ k ∧ k < 18446744073709551616
  vals : ∀ k ∈ x.vals, 0 ≤ k ∧ k < 18446744073709551616
  kids : ∀ k ∈ x.kids, 0 ≤ k ∧ k < 18446744073709551616
  size : 0 ≤ x.size ∧ x.size < 18446744073709551616
theorem getD_ok {l : List Int} (h : ∀ k ∈ l, 0 ≤ k ∧ k < 18446744073709551616) (j : Nat) : 0 ≤ l.getD j 0 ∧ l.getD j 0 < 18446744073709551616 := by
  rw [List.getD_eq_getElem?_getD]
  cases e : l[j]? with
  | none => exact ⟨Int.le_refl _, by show (0 : Int) < _; omega⟩
  | some v => exact h v (List.mem_of_getElem? e)
theorem set_ok {l : List Int} (h : ∀ k ∈ l, 0 ≤ k ∧ k < 18446744073709551616) (j : Nat) {v : Int} (hv : 0 ≤ v ∧ v < 18446744073709551616) : ∀ k ∈ l.set j v, 0 ≤ k ∧ k < 18446744073709551616 := fun k hk => by
  rcases List.mem_or_eq_of_mem_set hk with h1 | rfl
  · exact h k h1
  · exact hv
theorem ws_ok {t : Nat} {x : Nd} (h : Ok x) (hl : x.keys.length < 18446744073709551616) : ∀ v ∈ ws t x, 0 ≤ v ∧ v < 18446744073709551616 := by
  have h0 : ∀ v ∈ w0 t x, 0 ≤ v ∧ v < 18446744073709551616 := set_ok (set_ok (fun v hv => by rw [List.eq_of_mem_replicate hv]; omega) _ (by omega)) _ h.size
  have hK : ∀ k, ∀ v ∈ wK t x k, 0 ≤ v ∧ v < 18446744073709551616 := fun k => by
    induction k with
    | zero => exact h0
    | succ k ih => exact set_ok (set_ok ih _ (getD_ok h.keys k)) _ (getD_ok h.vals k)
  have hC : ∀ k, ∀ v ∈ wC t x k, 0 ≤ v ∧ v < 18446744073709551616 := fun k => by
    induction k with
    | zero => exact hK _
    | succ k ih => exact set_ok ih _ (getD_ok h.kids k)
  exact hC _
end Nd
end Go.Proofs.YtfmcddomciicdaaDoor
