/- BitsOne, walked. Condition: the table of math/bits holds what its initialiser lays. -/
import Derived.Test.YtphjonpokhmekaaDoorBitsRef
import Derived.OpenShut
namespace Go.Proofs.YtphjonpokhmekaaDoor
open Go Go.RowKit

theorem bitsOne_walk (a0 k : Int) (w : World) (w0 : (Lit.int .u64 a0).wf = true) (_w1 : (Lit.int .i64 k).wf = true) (hT : Tab64 w) :
    Calls Tryd.prog 3 #[.int .u64 a0, .int .i64 k] w fun e w' => e = .returned (.bool true) ∧ Below w.heap.size w w' := by
  have hb := bounds_u64 w0
  obtain ⟨N, rfl⟩ := Int.eq_ofNat_of_zero_le hb.1
  have hN : N < 18446744073709551616 := by omega
  have ha := (awake_call w hT).mono (R' := fun e w' => e = .returned (.bool true) ∧ Below w.heap.size w w') fun e w' ⟨he, hm⟩ => ⟨he, hm.below _ (Nat.le_refl _) (fun _ _ x => x)⟩
  have h1 := set_call N hN k w
  have h2 := rset_call N hN k w
  have h3 := clear_call N hN k w
  have h4 := rclear_call N hN k w
  have h5 := has_call N hN k w
  have h6 := rhas_call N hN k w
  clear hT hb hN
  generalize Bt.set N k = a at *
  generalize Bt.clear N k = c at *
  generalize Bt.err k = e at *
  generalize Bt.has N k = t at *
  go_enter Tryd.func3, Tryd.ntmps3
  go_wp2_with fail
  refine h1.mono ?_
  rintro e w' ⟨rfl, rfl⟩
  go_wp2_with fail
  refine h2.mono ?_
  rintro e w' ⟨rfl, rfl⟩
  go_wp2_with fail
  refine h3.mono ?_
  rintro e w' ⟨rfl, rfl⟩
  go_wp2_with fail
  refine h4.mono ?_
  rintro e w' ⟨rfl, rfl⟩
  go_wp2_with fail
  refine h5.mono ?_
  rintro e w' ⟨rfl, rfl⟩
  go_wp2_with fail
  refine h6.mono ?_
  rintro e w' ⟨rfl, rfl⟩
  go_wp2_with ((with_reducible refine ha.mono ?_); rintro e w' ⟨rfl, hb⟩)
  go_ret
  exact ⟨rfl, hb⟩
end Go.Proofs.YtphjonpokhmekaaDoor
