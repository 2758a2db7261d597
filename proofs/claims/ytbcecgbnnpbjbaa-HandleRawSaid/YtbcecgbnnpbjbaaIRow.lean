/- Slices of integers that a law makes itself: what they hold, cell by cell, and what keeps them. No condition. -/
import Derived.Test.YtbcecgbnnpbjbaaAppend
namespace Go.Proofs.Ytbcecgbnnpbjbaa
open Go Go.RowKit

/-- Two rows of two types are two blocks. -/
theorem rows_ne {w : World} {b1 b2 : Nat} {e1 e2 : TypeId} {z1 z2 n1 n2 : Nat} {v1 v2 : Value} {x1 x2 : List Value} (h1 : w.ownsRow b1 e1 z1 v1 n1 x1) (h2 : w.ownsRow b2 e2 z2 v2 n2 x2) (hne : e1 ≠ e2) {k : Nat}
    (k1 : v1.ownBlock = some k) (k2 : v2.ownBlock = some k) : False := by
  rcases h1.2 with ⟨rfl, _⟩ | ⟨g, cap, cur, rfl, _, hg, _⟩
  · simp [Value.ownBlock] at k1
  · rw [Value.ownBlock] at k1
    cases k1
    exact row_ne h2 hg hne k2

/-- A slice of integers of one kind, in memory of the law's own made since w0. -/
structure IRow (w0 w : World) (e : TypeId) (k : IntKind) (v : Value) (xs : List Int) : Prop where
  own : w.ownsRow 0 e 1 v xs.length (xs.map (Value.int k))
  new : ∀ g, v.ownBlock = some g → w0.heap.size ≤ g

theorem IRow.nil (w0 w : World) (e : TypeId) (k : IntKind) : IRow w0 w e k (.slice none 0 0) [] := ⟨World.ownsRow_nil _ _ _ _, by simp [Value.ownBlock]⟩

theorem IRow.form {w0 w : World} {e : TypeId} {k : IntKind} {v : Value} {xs : List Int} (h : IRow w0 w e k v xs) : ∃ sa cap, v = .slice sa xs.length cap := by
  obtain ⟨rfl, hz⟩ | ⟨g, cap, rfl⟩ := Joins.ownsRow_forms h.own
  · exact ⟨none, 0, by rw [hz]⟩
  · exact ⟨_, _, rfl⟩

theorem IRow.form_of {w0 w : World} {e : TypeId} {k : IntKind} {v : Value} {xs : List Int} (h : IRow w0 w e k v xs) {n : Nat} (hn : xs.length = n) : ∃ sa cap, v = .slice sa n cap := hn ▸ h.form

theorem IRow.at_ {w0 w : World} {e : TypeId} {k : IntKind} {sa : Option Addr} {n cap : Nat} {xs : List Int} (h : IRow w0 w e k (.slice sa n cap) xs) {i : Nat} {x : Int} (hx : xs[i]? = some x) :
    ∃ g, sa = some ⟨g, 0, none⟩ ∧ i < n ∧ w.cell? ⟨g, i, none⟩ = some (.int k x) ∧ ∀ o, w.frozen? ⟨g, o, none⟩ = false := by
  have hi := (List.getElem?_eq_some_iff.1 hx).1
  obtain ⟨g, cap', hv⟩ := Joins.ownsRow_form h.own (by omega)
  simp only [Value.slice.injEq] at hv
  obtain ⟨rfl, rfl, rfl⟩ := hv
  refine ⟨g, rfl, hi, ?_, fun o => h.own.frozenAt o⟩
  rw [h.own.cellAt _ (by omega), List.getElem?_map, hx]; rfl

theorem IRow.mod {w0 w w' : World} {e : TypeId} {k : IntKind} {v : Value} {xs : List Int} (h : IRow w0 w e k v xs) {S : Nat → Prop} (hm : Mod S w w') (hs : ∀ g, v.ownBlock = some g → ¬ S g) : IRow w0 w' e k v xs :=
  ⟨hm.row h.own hs, h.new⟩

theorem IRow.of_heap {w0 w w' : World} {e : TypeId} {k : IntKind} {v : Value} {xs : List Int} (h : IRow w0 w e k v xs) (e' : w'.heap = w.heap) : IRow w0 w' e k v xs :=
  ⟨⟨h.own.1, by rw [e']; exact h.own.2⟩, h.new⟩

theorem IRow.push {w0 w w' : World} {e : TypeId} {k : IntKind} {v : Value} {xs : List Int} (h : IRow w0 w e k v xs) {g cap : Nat} {x : Int} (hw : w0.heap.size ≤ w.heap.size)
    (h' : w'.ownsRow 0 e 1 (.slice (some ⟨g, 0, none⟩) (xs.length + 1) cap) (xs.length + 1) (xs.map (Value.int k) ++ [.int k x])) (hg : v.ownBlock = some g ∨ w.heap.size ≤ g) :
    IRow w0 w' e k (.slice (some ⟨g, 0, none⟩) (xs.length + 1) cap) (xs ++ [x]) :=
  ⟨by simpa using h', fun g' hg' => by
    cases hg'
    exact hg.elim (fun e => h.new g e) (fun e => Nat.le_trans hw e)⟩

theorem IRow.set {w0 w : World} {e : TypeId} {k : IntKind} {g n cap : Nat} {xs : List Int} (h : IRow w0 w e k (.slice (some ⟨g, 0, none⟩) n cap) xs) (i : Nat) (x : Int) :
    IRow w0 (w.setCell ⟨g, i, none⟩ (.int k x)) e k (.slice (some ⟨g, 0, none⟩) n cap) (xs.set i x) := by
  refine ⟨?_, h.new⟩
  obtain ⟨sa, cap', hv⟩ := h.form
  simp only [Value.slice.injEq] at hv
  obtain ⟨rfl, rfl, rfl⟩ := hv
  have := (h.own.stored i (.int k x)).1
  rw [List.map_set, List.length_set]; exact this

/-- A row of another type stays where a row grows. -/
theorem IRow.mod_row {w0 w w' : World} {e e2 : TypeId} {k : IntKind} {v v2 : Value} {xs : List Int} {b2 z2 n2 : Nat} {x2 : List Value} (h : IRow w0 w e k v xs) (h2 : w.ownsRow b2 e2 z2 v2 n2 x2) (hne : e ≠ e2)
    (hm : Mod (fun k => v2.ownBlock = some k) w w') : IRow w0 w' e k v xs := h.mod hm fun _ k1 k2 => rows_ne h.own h2 hne k1 k2
end Go.Proofs.Ytbcecgbnnpbjbaa
