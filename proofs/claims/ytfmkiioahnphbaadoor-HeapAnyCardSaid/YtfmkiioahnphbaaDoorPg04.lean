/- The reference of layer 4 (loftref04), as data: pages, and how they stand for the heap's entries. No program stands here. No condition. -/
import Derived.Test.YtfmkiioahnphbaaDoorHeapE
import Derived.Test.YtfmkiioahnphbaaDoorFlat
set_option linter.unusedVariables false
set_option linter.unusedSimpArgs false
set_option maxRecDepth 100000
namespace Go.Proofs.YtfmkiioahnphbaaDoor
open Go Go.RowKit

/-- A page of the reference's. -/
structure RPg where
  n : Nat
  many : Nat
  cls : Nat
  wds : Int
  lg : Bool
  bits : Nat
namespace RPg
def ent (P : RPg) : Ent := (P.n, if P.lg = true then ⟨2, (P.many : Nat), P.wds⟩ else ⟨1, (P.cls : Nat), (P.bits : Nat)⟩)
def slots (P : RPg) : Nat := if P.lg = true then 1 else 62 / csz P.cls
def place (P : RPg) (k : Nat) : Nat := if P.lg = true then 64 * P.n + 2 else 64 * P.n + 2 + k * csz P.cls
def bitc (N : Nat) : List Value := (List.range 31).map fun k => .bool (N.testBit k)
def cells (P : RPg) : List Value := [.int .i64 P.n, .int .i64 P.many, .int .i64 P.cls, .int .i64 P.wds, .bool P.lg] ++ bitc P.bits
theorem cells_len (P : RPg) : P.cells.length = 36 := by simp [cells, bitc]
theorem cells_one (P : RPg) : ∀ u ∈ P.cells, u.oneCell' = true := by
  intro u hu
  rcases List.mem_append.1 hu with hu | hu
  · simp only [List.mem_cons, List.not_mem_nil, or_false] at hu
    rcases hu with rfl | rfl | rfl | rfl | rfl <;> rfl
  · obtain ⟨j, _, rfl⟩ := List.mem_map.1 hu
    rfl
theorem cells_bit (P : RPg) {k : Nat} (hk : k < 31) : P.cells[5 + k]? = some (.bool (P.bits.testBit k)) := by
  unfold cells
  rw [List.getElem?_append_right (by simp)]
  simp [bitc, hk]
/-- What is so of each page. -/
structure Ok (P : RPg) : Prop where
  sm : P.lg = false → P.many = 1
  lg : P.lg = true → P.bits = 1
  good : P.ent.2.Good
theorem ent_lg {P : RPg} (h : P.lg = true) : P.ent = (P.n, ⟨2, (P.many : Nat), P.wds⟩) := by unfold ent; rw [if_pos h]
theorem ent_sm {P : RPg} (h : P.lg = false) : P.ent = (P.n, ⟨1, (P.cls : Nat), (P.bits : Nat)⟩) := by unfold ent; rw [if_neg (by rw [h]; decide)]
theorem Ok.wide {P : RPg} (h : P.Ok) : P.ent.2.wide = P.many := by
  cases hl : P.lg with
  | true => rw [ent_lg hl]; unfold Hd.wide; rw [if_pos rfl, Int.toNat_natCast]
  | false => rw [ent_sm hl]; unfold Hd.wide; rw [if_neg (by show (1 : Int) ≠ 2; omega), h.sm hl]
theorem Ok.cls8 {P : RPg} (h : P.Ok) (hl : P.lg = false) : P.cls < 8 ∧ 0 < P.bits ∧ P.bits < 2 ^ (62 / csz P.cls) := by
  have g := h.good
  rw [ent_sm hl] at g
  have hs := g.small (by show (1 : Int) ≠ 2; omega)
  dsimp only at hs
  simp only [Int.toNat_natCast] at hs
  omega
theorem Ok.lgw {P : RPg} (h : P.Ok) (hl : P.lg = true) : 28 < P.wds ∧ P.wds ≤ 4000 ∧ (P.many : Int) = (P.wds + 65) / 64 := by
  have g := h.good
  rw [ent_lg hl] at g
  have hs := g.big rfl
  dsimp only at hs
  exact hs.2
theorem Ok.slots_le {P : RPg} (h : P.Ok) : 1 ≤ P.slots ∧ P.slots ≤ 31 := by
  unfold slots
  cases hl : P.lg with
  | true => rw [if_pos rfl]; omega
  | false =>
    rw [if_neg (by decide)]
    have := csz_range (h.cls8 hl).1
    omega
theorem Ok.place_le {P : RPg} (h : P.Ok) {k : Nat} (hk : k < P.slots) : P.place k ≤ 64 * P.n + 64 := by
  unfold slots at hk
  unfold place
  cases hl : P.lg with
  | true => rw [if_pos rfl]; omega
  | false =>
    rw [if_neg (by decide)]
    rw [hl, if_neg (by decide)] at hk
    have := slot_in (h.cls8 hl).1 hk
    omega
/-- The blocks of a page. -/
theorem Ok.blk {P : RPg} (h : P.Ok) {k : Nat} (hk : k < P.slots) (hb : P.bits.testBit k = true) : ∃ r, (P.place k, r) ∈ blkE P.ent := by
  cases hl : P.lg with
  | true =>
    rw [ent_lg hl, blkE_big rfl]
    refine ⟨P.wds.toNat, ?_⟩
    unfold place
    rw [if_pos hl]
    simp
  | false =>
    unfold slots at hk
    rw [hl, if_neg (by decide)] at hk
    rw [ent_sm hl]
    refine ⟨csz P.cls, (mem_small (x := (P.n, ⟨1, (P.cls : Nat), (P.bits : Nat)⟩)) rfl).2 ⟨k, by simpa using hk, by simpa using hb, ?_⟩⟩
    unfold place
    rw [if_neg (by rw [hl]; decide)]
    simp
theorem Ok.blk_inv {P : RPg} (h : P.Ok) {a r : Nat} (hb : (a, r) ∈ blkE P.ent) : ∃ k, k < P.slots ∧ P.bits.testBit k = true ∧ a = P.place k := by
  cases hl : P.lg with
  | true =>
    rw [ent_lg hl, blkE_big rfl] at hb
    have := List.mem_singleton.1 hb
    refine ⟨0, ?_, ?_, ?_⟩
    · unfold slots; rw [if_pos hl]; omega
    · rw [h.lg hl]; rfl
    · unfold place; rw [if_pos hl]; exact congrArg Prod.fst this
  | false =>
    rw [ent_sm hl] at hb
    obtain ⟨k, hk, hbit, e⟩ := (mem_small (x := (P.n, ⟨1, (P.cls : Nat), (P.bits : Nat)⟩)) rfl).1 hb
    simp only [Int.toNat_natCast] at hk hbit e
    refine ⟨k, ?_, hbit, ?_⟩
    · unfold slots; rw [if_neg (by rw [hl]; decide)]; exact hk
    · unfold place; rw [if_neg (by rw [hl]; decide)]; exact congrArg Prod.fst e
end RPg

def p4row (L : List RPg) : List Value := L.flatMap RPg.cells
theorem p4row_len (L : List RPg) : (p4row L).length = L.length * 36 := flat_len RPg.cells_len L
theorem p4row_one (L : List RPg) : ∀ u ∈ p4row L, u.oneCell' = true := by
  intro u hu
  obtain ⟨P, _, hs⟩ := List.mem_flatMap.1 hu
  exact P.cells_one u hs
theorem p4row_at {L : List RPg} {i j : Nat} {P : RPg} (h : L[i]? = some P) (hj : j < 36) : (p4row L)[i * 36 + j]? = P.cells[j]? := flat_get RPg.cells_len L i j P h hj
theorem p4row_app (A B : List RPg) : p4row (A ++ B) = p4row A ++ p4row B := by unfold p4row; rw [List.flatMap_append]
theorem p4row_take (L : List RPg) (k : Nat) (hk : k ≤ L.length) : p4row (L.take k) = (p4row L).take (k * 36) := flat_take RPg.cells_len L k hk
theorem p4row_drop (L : List RPg) (k : Nat) (hk : k ≤ L.length) : p4row (L.drop k) = (p4row L).drop (k * 36) := flat_drop RPg.cells_len L k hk
theorem bitc_set {N N' k : Nat} {b : Bool} (hk : k < 31) (h : ∀ i, N'.testBit i = if i = k then b else N.testBit i) : RPg.bitc N' = (RPg.bitc N).set k (.bool b) := by
  unfold RPg.bitc
  refine List.ext_getElem? fun i => ?_
  rw [List.getElem?_set]
  by_cases hi : i < 31
  · simp only [List.getElem?_map, List.getElem?_range hi, Option.map_some]
    rw [h i]
    by_cases e : k = i
    · subst e
      simp [hk]
    · rw [if_neg (fun h => e h.symm), if_neg e]
  · rw [List.getElem?_eq_none (by simp; omega), if_neg (by omega), List.getElem?_eq_none (by simp; omega)]
theorem p4row_bit {L : List RPg} {i k : Nat} {P : RPg} {N' : Nat} {b : Bool} (hi : L[i]? = some P) (hk : k < 31) (h : ∀ i, N'.testBit i = if i = k then b else P.bits.testBit i) :
    p4row (L.set i { P with bits := N' }) = (p4row L).set (i * 36 + (5 + k)) (.bool b) := by
  refine flat_set RPg.cells_len L i (5 + k) P { P with bits := N' } (.bool b) hi (by omega) ?_
  unfold RPg.cells
  rw [List.set_append_right _ _ (by simp)]
  rw [show (5 + k - [Value.int IntKind.i64 (P.n : Int), Value.int IntKind.i64 (P.many : Int), Value.int IntKind.i64 (P.cls : Int), Value.int IntKind.i64 P.wds, Value.bool P.lg].length) = k by simp]
  rw [bitc_set hk h]
end Go.Proofs.YtfmkiioahnphbaaDoor
