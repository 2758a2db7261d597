/- 'make([]T, n)' of elements of one cell, among objects apart. No condition beyond the row's bounds. -/
import Derived.Test.YtpcomekikeoliaaGreatDoorHeapLawSpec
import Derived.OwnWalk
set_option linter.unusedVariables false
set_option linter.unusedSimpArgs false
set_option maxRecDepth 100000
namespace Go.Proofs.YtpcomekikeoliaaGreatDoor
open Go Go.RowKit

variable {F0 : Nat → Prop} {w0 w : World} {Ps : List Res}
/-- A block that is just so. -/
def blockAt (b : Nat) (o : Obj) : Res where
  P w F := w.heap[b]? = some o ∧ F = fun k => k = b
  keep := fun {w w' F} ⟨h, e⟩ hk => ⟨by rw [hk b (by rw [e])]; exact h, e⟩
  lt := fun {w F} ⟨h, e⟩ k hk => by
    rw [e] at hk
    subst hk
    exact lt_of_at h
theorem Sep.pushBlock (h : Sep F0 w0 w Ps) (o : Obj) : Sep F0 w0 (w.alloc o) (Ps ++ [blockAt w.heap.size o]) :=
  h.push _ (fun k => k = w.heap.size) ⟨heap_alloc_new w _, rfl⟩ ((Mod.refl _ w).alloc o) (fun k hk => by rw [hk]; exact Nat.le_refl _)
theorem Sep.blockIs (h : Sep F0 w0 w Ps) (i : Nat) {b : Nat} {o : Obj} (hi : Ps[i]? = some (blockAt b o)) : w.heap[b]? = some o := by
  obtain ⟨F, hP, _⟩ := h.at_ i hi
  exact hP.1
theorem made_one (z : Value) (hz : z.cells = #[z]) (n : Nat) : (madeCells z.cells (n * 1)).toList = List.replicate n z := by
  rw [hz]
  apply List.ext_getElem?
  intro i
  unfold madeCells
  simp only [List.getElem?_replicate]
  by_cases h : i < n
  · simp [h, Nat.mod_one]
  · simp [h]

/-- make of n zero elements. -/
theorem wpList_make_sep {P : Program} {ops : Array Oper} {rest : List Oper} {o : Oper} {a : Act} {Q : Exit → Act → World → Prop} (h : Sep F0 w0 w Ps) (hg : o.guard = none) (l c : Operand) (t : TypeId) (hop : o.op = Op.makeSlice t l c)
    (e : TypeId) {i : TypeInfo} {z : Value} (h1 : P.underlying t = some (.slice e)) (h2 : P.info? e = some i) (h3 : i.zero = some z) (h4 : i.size = 1) (hz : z.cells = #[z])
    (L C : Int) (n : Nat) (hl : a.eval l = .int .i64 L) (hc : a.eval c = .int .i64 C) (hL : L = (n : Int)) (hC : C = (n : Int)) (b2 : i.bytes * n ≤ 281474976710656) (b3 : n ≤ maxLen)
    (k : ∀ w', Sep F0 w0 w' (Ps ++ [rowAt e 1 (.slice (some ⟨w.heap.size, 0, none⟩) n n) n (List.replicate n z)]) → wpList P ops Q rest (a.put o.dst (.slice (some ⟨w.heap.size, 0, none⟩) n n)) w') :
    wpList P ops Q (o :: rest) a w := by
  refine wpList_make_full w hg l c t hop 0 e i z 1 h1 h2 h3 h4 .i64 .i64 L C n hl hc hL hC b2 b3 (Nat.zero_le _) fun w' hown hgr => ?_
  rw [made_one z hz n] at hown
  exact k w' (h.push _ _ ⟨hown, rfl⟩ ((Mod.refl No w).grown hgr (fun k hk => by cases hk)) (fun k hk => by
    simp only [Value.ownBlock, Option.some.injEq] at hk
    omega))
end Go.Proofs.YtpcomekikeoliaaGreatDoor
