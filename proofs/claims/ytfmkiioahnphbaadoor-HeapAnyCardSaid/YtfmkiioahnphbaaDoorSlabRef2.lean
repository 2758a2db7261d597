/- The reference of layer 1 (loftref01): Free, Numbers, Same, New, walked. Conditions: the arena in memory is as said. -/
import Derived.Test.YtfmkiioahnphbaaDoorSlabRef
set_option linter.unusedVariables false
set_option linter.unusedSimpArgs false
set_option maxRecDepth 100000
namespace Go.Proofs.YtfmkiioahnphbaaDoor
open Go Go.RowKit

variable {w : World} {v : Value} {S : Slb}

theorem infoInt : (Tryd.prog.info? 3).map (fun i => (i.zero, i.size, i.bytes)) = some (some (.int .i64 0), 1, 8) := by kernel_rfl

def nums (L : List Nat) : List Int := L.map fun k : Nat => (k : Int)

theorem rsame_call {sa sb : Option Addr} {ca cb : Nat} {xs : List Int} (h1 : w.ownsRow 0 3 1 (.slice sa xs.length ca) xs.length (xs.map (Value.int .i64))) (h2 : w.ownsRow 0 3 1 (.slice sb xs.length cb) xs.length (xs.map (Value.int .i64))) (hl : xs.length ≤ 1000000) :
    Calls Tryd.prog 14 #[.slice sa xs.length ca, .slice sb xs.length cb] w fun e w' => e = .returned (.bool true) ∧ Mod No w w' := by
  have HS : Hid (∀ (j : Nat) x, xs[j]? = some x → ∃ g g', sa = some ⟨g, 0, none⟩ ∧ sb = some ⟨g', 0, none⟩ ∧ w.cell? ⟨g, j, none⟩ = some (.int .i64 x) ∧ w.cell? ⟨g', j, none⟩ = some (.int .i64 x)) := by
    intro j x hx
    have hjl := (List.getElem?_eq_some_iff.1 hx).1
    obtain ⟨g, cap', hv⟩ := Joins.ownsRow_form h1 (by omega)
    obtain ⟨g', cap'', hv'⟩ := Joins.ownsRow_form h2 (by omega)
    simp only [Value.slice.injEq, true_and] at hv hv'
    obtain ⟨rfl, rfl⟩ := hv
    obtain ⟨rfl, rfl⟩ := hv'
    refine ⟨g, g', rfl, rfl, ?_, ?_⟩
    · rw [h1.cellAt _ (by omega), List.getElem?_map, hx]; rfl
    · rw [h2.cellAt _ (by omega), List.getElem?_map, hx]; rfl
  obtain ⟨n, hn⟩ : ∃ n, xs.length = n := ⟨_, rfl⟩
  have HN := Lib.hid hn
  rw [hn] at hl ⊢
  have bn : ((n : Int) != n) = false := bneF rfl
  clear h1 h2 hn
  go_enter Tryd.func14, Tryd.ntmps14
  go_wp2_with fail
  go_loopw [5] (fun i wr => ∃ j : Nat, j ≤ n ∧ i = .int .i64 j ∧ ∃ nq, wr = w.drewN nq) (fun i _ => n - (RowKit.intOf i).toNat)
  case atStart => exact ⟨0, Nat.zero_le _, rfl, 0, rfl⟩
  case round =>
    obtain ⟨j, hj, rfl, nq, rfl⟩ := hrel
    by_cases hlt : j < n
    · have hx := List.getElem?_eq_getElem (show j < xs.length by rw [HN.out]; exact hlt)
      obtain ⟨g, g', rfl, rfl, c1, c2⟩ := HS.out j _ hx
      have hlt' : (j : Int) < (n : Int) := by omega
      have hj0 : (0 : Int) ≤ (j : Int) := by omega
      generalize xs[j]'(by rw [HN.out]; exact hlt) = x at *
      have bx : (x != x) = false := bneF rfl
      clear hx HS
      go_wp2_with fail
      go_quiet (fail)
      go_wp2
      go_roundw
      case rel => exact ⟨j + 1, by omega, by go_num, _, rfl⟩
      case measure => simp [RowKit.intOf]; omega
    · obtain rfl : j = n := by omega
      clear HS
      go_wp2
      go_ret
      exact ⟨rfl, ⟨rfl, rfl, rfl, Nat.le_refl _, fun _ _ _ => rfl⟩⟩

end Go.Proofs.YtfmkiioahnphbaaDoor
