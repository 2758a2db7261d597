/- Parts of a slice as what is appended: s[:k] and s[k:], whatever their form. No condition. -/
import Derived.Test.YtfmkiioahnphbaaDoorHeapE
import Derived.Test.YtfmkiioahnphbaaDoorSrc
set_option linter.unusedVariables false
set_option linter.unusedSimpArgs false
set_option maxRecDepth 100000
namespace Go.Proofs.YtfmkiioahnphbaaDoor
open Go Go.RowKit

theorem wp_slice_any {P : Program} {op : Oper} {a : Act} {w : World} {K : Act → World → Prop} {Q : Exit → Act → World → Prop} (t : TypeId) (x : Operand) (lo hi mx : Option Operand) (ho : op.op = .slice t x lo hi mx) {v' : Value}
    (hrun : (Instr.sliceAt t (a.eval x) (lo.map a.eval) (hi.map a.eval) (mx.map a.eval)).run P w = .ok v' w) (h : K (a.put op.dst v') w) : op.wp P a w K Q := by
  unfold Oper.wp execOp
  simp only [ho, Sem.run_bind, hrun, Result.andThen_ok, Sem.run_pure]
  exact h

section
variable {F0 : Nat → Prop} {w0 w : World} {Ps : List Res} {P : Program}
theorem elem_of {t e : TypeId} (ht : P.underlying t = some (.slice e)) : P.underlying t = some (.slice (P.elem t)) := by
  have : P.elem t = e := by simp [Program.elem, ht]
  rw [this]; exact ht
theorem rowAddr {e size n cap : Nat} {sa : Option Addr} {xs : List Value} (hr : w.ownsRow 0 e size (.slice sa n cap) n xs) : (sa = none ∧ n = 0 ∧ cap = 0) ∨ ∃ g, sa = some ⟨g, 0, none⟩ := by
  rcases hr.2 with ⟨hv, hn⟩ | ⟨g, cap', cur, hv, _⟩
  · simp only [Value.slice.injEq] at hv
    exact .inl ⟨hv.1, hn, hv.2.2⟩
  · simp only [Value.slice.injEq] at hv
    exact .inr ⟨g, hv.1⟩
theorem wpList_head {ops : Array Oper} {rest : List Oper} {o : Oper} {a : Act} {Q : Exit → Act → World → Prop} (h : Sep F0 w0 w Ps) (j : Nat) {e size : Nat} {sa : Option Addr} {n cap : Nat} {xs : List Value}
    (hj : Ps[j]? = some (rowAt e size (.slice sa n cap) n xs)) (h1 : ∀ u ∈ xs, u.oneCell' = true) (hgd : o.guard = none) (t : TypeId) (x y : Operand) (ho : o.op = .slice t x none (some y) none) (ht : P.underlying t = some (.slice e))
    (hsz : (P.info? e).map (·.size) = some size) (hx : a.eval x = .slice sa n cap) (k : Nat) (hy : a.eval y = .int .i64 (k : Nat)) (hk : k ≤ n)
    (K : ∀ v', SrcOf w size v' k (xs.take (k * size)) → wpList P ops Q rest (a.put o.dst v') w) : wpList P ops Q (o :: rest) a w := by
  have hr := h.row j hj
  have hc := rowCap hr
  refine wpList_plain hgd fun K' hK' => ?_
  have he : P.elem t = e := by simp [Program.elem, ht]
  refine wp_slice_any t x none (some y) none ho (v' := sliced sa 0 k cap size) ?_ (hK' _ _ (K _ ?_))
  · simp only [Option.map_none, Option.map_some, hx, hy]
    rw [run_sliceAt_slice _ t _ _ _ _ (elem_of ht), run_slice_h _ t sa n cap (elem_of ht) .i64 (k : Int) (by omega) (by omega), he]
    cases hi : P.info? e with
    | none => rw [hi] at hsz; cases hsz
    | some i =>
      rw [hi] at hsz
      simp only [Option.map_some, Option.some.injEq] at hsz
      have hcs : P.cellsOf e = size := by unfold Program.cellsOf; rw [hi]; exact hsz
      rw [run_sizeOf _ hi, hcs]
      simp [Result.andThen]
  · unfold sliced
    rcases rowAddr hr with ⟨rfl, rfl, rfl⟩ | ⟨g, rfl⟩
    · have : k = 0 := by omega
      subst this
      exact .inl ⟨by simp, rfl, by simp⟩
    · have e1 : (if cap = 0 then some (⟨g, 0, none⟩ : Addr) else (some (⟨g, 0, none⟩ : Addr)).map (·.add (0 * size))) = some ⟨g, 0, none⟩ := by
        split
        · rfl
        · simp [Addr.add]
      rw [e1, Nat.sub_zero, Nat.sub_zero]
      exact srcHead hr h1 k cap hk
theorem wpList_tail {ops : Array Oper} {rest : List Oper} {o : Oper} {a : Act} {Q : Exit → Act → World → Prop} (h : Sep F0 w0 w Ps) (j : Nat) {e size : Nat} {sa : Option Addr} {n cap : Nat} {xs : List Value}
    (hj : Ps[j]? = some (rowAt e size (.slice sa n cap) n xs)) (h1 : ∀ u ∈ xs, u.oneCell' = true) (hgd : o.guard = none) (t : TypeId) (x y : Operand) (ho : o.op = .slice t x (some y) none none) (ht : P.underlying t = some (.slice e))
    (hsz : (P.info? e).map (·.size) = some size) (hx : a.eval x = .slice sa n cap) (k : Nat) (hy : a.eval y = .int .i64 (k : Nat)) (hk : k ≤ n)
    (K : ∀ v', SrcOf w size v' (n - k) (xs.drop (k * size)) → wpList P ops Q rest (a.put o.dst v') w) : wpList P ops Q (o :: rest) a w := by
  have hr := h.row j hj
  have hc := rowCap hr
  refine wpList_plain hgd fun K' hK' => ?_
  have he : P.elem t = e := by simp [Program.elem, ht]
  refine wp_slice_any t x (some y) none none ho (v' := sliced sa k n cap size) ?_ (hK' _ _ (K _ ?_))
  · simp only [Option.map_none, Option.map_some, hx, hy]
    rw [run_sliceAt_slice _ t _ _ _ _ (elem_of ht), run_slice_l _ t sa n cap (elem_of ht) .i64 (k : Int) (by omega) (by omega), he]
    cases hi : P.info? e with
    | none => rw [hi] at hsz; cases hsz
    | some i =>
      rw [hi] at hsz
      simp only [Option.map_some, Option.some.injEq] at hsz
      have hcs : P.cellsOf e = size := by unfold Program.cellsOf; rw [hi]; exact hsz
      rw [run_sizeOf _ hi, hcs]
      simp [Result.andThen]
  · unfold sliced
    rcases rowAddr hr with ⟨rfl, rfl, rfl⟩ | ⟨g, rfl⟩
    · have : k = 0 := by omega
      subst this
      have hl : xs.length = 0 := by have := hr.1; omega
      have : xs = [] := List.eq_nil_of_length_eq_zero hl
      subst this
      exact .inl ⟨by simp, rfl, by simp⟩
    · have e1 : (if cap = k then some (⟨g, 0, none⟩ : Addr) else (some (⟨g, 0, none⟩ : Addr)).map (·.add (k * size))) = (if cap = k then some ⟨g, 0, none⟩ else some ⟨g, k * size, none⟩) := by
        split
        · rfl
        · simp only [Option.map_some, Option.some.injEq]
          unfold Addr.add
          split
          · rename_i h0; rw [h0]
          · simp
      rw [e1]
      exact srcTail hr h1 k hk
end
end Go.Proofs.YtfmkiioahnphbaaDoor
