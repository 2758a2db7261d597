/- The reference of layer 1 (loftref01): At, Read, Free, walked: it computes what the plain arena computes. Conditions: the arena in memory is as said. -/
import Derived.Test.YtfmkiioahnphbaaDoorHeapC
import Derived.Test.YtfmkiioahnphbaaDoorSlabPages
import Derived.Test.YtfmkiioahnphbaaDoorFlat
import Derived.StillTailTactics
set_option linter.unusedVariables false
set_option linter.unusedSimpArgs false
set_option maxRecDepth 100000
namespace Go.Proofs.YtfmkiioahnphbaaDoor
open Go Go.RowKit

/-- A page of the reference's: its number, its words. -/
def pcell (wd : Nat → Int) (k : Nat) : List Value := .int .i64 k :: (List.range 64).map fun j => .int .u64 (wd (64 * k + j))
def prow (wd : Nat → Int) (pg : List Nat) : List Value := pg.flatMap (pcell wd)
theorem pcell_len (wd : Nat → Int) (k : Nat) : (pcell wd k).length = 65 := by simp [pcell]
theorem prow_len (wd : Nat → Int) (pg : List Nat) : (prow wd pg).length = pg.length * 65 := flat_len (pcell_len wd) pg
theorem prow_num {wd : Nat → Int} {pg : List Nat} {i k : Nat} (h : pg[i]? = some k) : (prow wd pg)[i * 65]? = some (.int .i64 k) := by
  have := flat_get (pcell_len wd) pg i 0 k h (by omega)
  rw [Nat.add_zero] at this
  exact this
theorem prow_word {wd : Nat → Int} {pg : List Nat} {i k j : Nat} (h : pg[i]? = some k) (hj : j < 64) : (prow wd pg)[i * 65 + 1 + j]? = some (.int .u64 (wd (64 * k + j))) := by
  have := flat_get (pcell_len wd) pg i (1 + j) k h (by omega)
  rw [← Nat.add_assoc] at this
  rw [prow, this, pcell, Nat.add_comm 1 j, List.getElem?_cons_succ]
  simp [hj]
theorem prow_one (wd : Nat → Int) (pg : List Nat) : ∀ u ∈ prow wd pg, u.oneCell' = true := by
  intro u hu
  obtain ⟨s, _, hs⟩ := List.mem_flatMap.1 hu
  rcases List.mem_cons.1 hs with rfl | hs
  · rfl
  · obtain ⟨j, _, rfl⟩ := List.mem_map.1 hs
    rfl

namespace Slb
/-- The place of a page; behind the last if it is not there. -/
def place (S : Slb) (n : Int) : Nat := S.pg.findIdx fun k : Nat => decide ((k : Int) = n)
def placeAt (S : Slb) (n : Int) : Int := if S.has n then (S.place n : Nat) else -1
theorem place_le (S : Slb) (n : Int) : S.place n ≤ S.pg.length := List.findIdx_le_length
theorem place_lt {S : Slb} {n : Int} : S.place n < S.pg.length ↔ S.has n = true := by
  unfold place
  rw [List.findIdx_lt_length, has_iff]
  constructor
  · rintro ⟨k, hk, h⟩
    have : (k : Int) = n := by simpa using h
    exact ⟨by omega, by rw [← this]; simpa using hk⟩
  · rintro ⟨h0, h⟩
    exact ⟨n.toNat, h, by simp; omega⟩
theorem place_get {S : Slb} {n : Int} (h : S.has n = true) : S.pg[S.place n]? = some n.toNat := by
  have hl := place_lt.2 h
  rw [List.getElem?_eq_getElem hl]
  have := List.findIdx_getElem (p := fun k : Nat => decide ((k : Int) = n)) (xs := S.pg) (w := hl)
  have : ((S.pg[S.place n] : Nat) : Int) = n := of_decide_eq_true this
  congr 1
  omega
theorem place_bef {S : Slb} {n : Int} {j k : Nat} (hj : j < S.place n) (hk : S.pg[j]? = some k) : (k : Int) ≠ n := by
  unfold place at hj
  have := List.not_of_lt_findIdx hj
  obtain ⟨hl, rfl⟩ := List.getElem?_eq_some_iff.1 hk
  simpa using this
theorem len_le {S : Slb} (h : S.Ok) : S.pg.length ≤ 4096 := by have := h.fit; have := h.q1; omega
end Slb

variable {w : World} {v : Value} {S : Slb}

theorem row_form {e size n : Nat} {xs : List Value} (hr : w.ownsRow 0 e size v n xs) : ∃ sa cap, v = .slice sa n cap := by
  obtain ⟨rfl, hz⟩ | ⟨g, cap, rfl⟩ := Joins.ownsRow_forms hr
  · exact ⟨none, 0, by rw [hz]⟩
  · exact ⟨_, _, rfl⟩

theorem placeAt_no {n : Int} (h : S.has n = false) : S.placeAt n = -1 := by unfold Slb.placeAt; rw [h]; rfl
theorem placeAt_yes {n : Int} (h : S.has n = true) : S.placeAt n = (S.place n : Nat) := by unfold Slb.placeAt; rw [h]; rfl

end Go.Proofs.YtfmkiioahnphbaaDoor
