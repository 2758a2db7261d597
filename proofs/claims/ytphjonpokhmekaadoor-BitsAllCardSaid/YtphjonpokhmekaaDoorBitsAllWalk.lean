/- BitsAll, walked. Condition: the table of math/bits holds what its initialiser lays. -/
import Derived.Test.YtphjonpokhmekaaDoorBitsRef2
import Derived.OpenShut
namespace Go.Proofs.YtphjonpokhmekaaDoor
open Go Go.RowKit

theorem bitsAll_walk (a0 n : Int) (w : World) (w0 : (Lit.int .u64 a0).wf = true) (_w1 : (Lit.int .i64 n).wf = true) (hT : Tab64 w) :
    Calls Tryd.prog 5 #[.int .u64 a0, .int .i64 n] w fun e w' => e = .returned (.bool true) ∧ Below w.heap.size w w' := by
  have hb := bounds_u64 w0
  obtain ⟨N, rfl⟩ := Int.eq_ofNat_of_zero_le hb.1
  have hN : N < 18446744073709551616 := by omega
  have h1 := free_call N hN n w hT
  have h2 := fun w => rfree_call N hN n w
  have h3 := fun w => last_call N hN n w
  have h4 := fun w => rlast_call N hN n w
  have h5 := fun w => count_call N hN n w
  have h6 := fun w => rcount_call N hN n w
  have h7 := fun w => full_call n w
  have h8 := fun w => rfull_call n w
  have H := Lib.hid (And.intro h2 (And.intro h3 (And.intro h4 (And.intro h5 (And.intro h6 (And.intro h7 h8))))))
  clear h2 h3 h4 h5 h6 h7 h8 hb hN
  generalize Bt.free N n = a at *
  generalize Bt.last N n = b at *
  generalize Bt.count N n = c at *
  generalize Bt.full n = d at *
  have HT := Lib.hid hT
  clear hT
  go_enter Tryd.func5, Tryd.ntmps5
  go_wp2_with fail
  refine h1.mono ?_
  rintro e w1 ⟨rfl, m1⟩
  clear h1
  have hc := H.out.1 w1
  go_wp2_with fail
  refine hc.mono ?_
  rintro e w' ⟨rfl, rfl⟩
  clear hc
  have hc := H.out.2.1 w1
  go_wp2_with fail
  refine hc.mono ?_
  rintro e w2 ⟨rfl, m2⟩
  clear hc
  have hc := H.out.2.2.1 w2
  go_wp2_with fail
  refine hc.mono ?_
  rintro e w' ⟨rfl, rfl⟩
  clear hc
  have hc := H.out.2.2.2.1 w2
  go_wp2_with fail
  refine hc.mono ?_
  rintro e w3 ⟨rfl, m3⟩
  clear hc
  have hc := H.out.2.2.2.2.1 w3
  go_wp2_with fail
  refine hc.mono ?_
  rintro e w' ⟨rfl, rfl⟩
  clear hc
  have hc := H.out.2.2.2.2.2.1 w3
  go_wp2_with fail
  refine hc.mono ?_
  rintro e w' ⟨rfl, rfl⟩
  clear hc
  have hc := H.out.2.2.2.2.2.2 w3
  go_wp2_with fail
  refine hc.mono ?_
  rintro e w' ⟨rfl, rfl⟩
  clear hc
  have m := (m1.trans' m2).trans' m3
  have ha := awake_call w3 (HT.out.mod m)
  clear m1 m2 m3
  go_wp2_with fail
  refine ha.mono ?_
  rintro e w4 ⟨rfl, m4⟩
  go_wp2
  go_ret
  exact ⟨rfl, (m.trans' m4).below _ (Nat.le_refl _) (fun _ _ x => x)⟩
end Go.Proofs.YtphjonpokhmekaaDoor
