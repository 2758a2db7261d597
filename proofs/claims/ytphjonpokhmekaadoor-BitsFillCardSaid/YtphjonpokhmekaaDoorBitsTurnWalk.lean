/- BitsTurn, walked. Condition: the table of math/bits holds what its initialiser lays. -/
import Derived.Test.YtphjonpokhmekaaDoorBitsRef2
import Derived.OpenShut
namespace Go.Proofs.YtphjonpokhmekaaDoor
open Go Go.RowKit

theorem cnt_compl {N : Nat} (hN : N < 18446744073709551616) : ∀ k, k ≤ 64 → Bt.cnt N k + Bt.cnt (18446744073709551615 - N) k = k := by
  intro k
  induction k with
  | zero => intro _; rfl
  | succ k ih =>
    intro h
    have hk := ih (by omega)
    have e1 : Bt.cnt N (k + 1) = Bt.cnt N k + (if N.testBit k then 1 else 0) := rfl
    have e2 : Bt.cnt (18446744073709551615 - N) (k + 1) = Bt.cnt (18446744073709551615 - N) k + (if (18446744073709551615 - N).testBit k then 1 else 0) := rfl
    rw [e1, e2, Bt.compl_testBit hN]
    have : k < 64 := by omega
    cases N.testBit k <;> simp [this] <;> omega

theorem out_64 (n : Int) : (n < 0) ∨ (0 ≤ n ∧ 64 < n) ∨ (0 ≤ n ∧ n ≤ 64) := by omega

theorem bitsTurn_walk (a0 k n : Int) (w : World) (w0 : (Lit.int .u64 a0).wf = true) (_w1 : (Lit.int .i64 k).wf = true) (_w2 : (Lit.int .i64 n).wf = true) (hT : Tab64 w) :
    Calls Tryd.prog 8 #[.int .u64 a0, .int .i64 k, .int .i64 n] w fun e w' => e = .returned (.bool true) ∧ Below w.heap.size w w' := by
  have hb := bounds_u64 w0
  obtain ⟨N, rfl⟩ := Int.eq_ofNat_of_zero_le hb.1
  have hN : N < 18446744073709551616 := by omega
  have ha := fun (w1 : World) (m : Mod (fun _ => False) w w1) => (awake_call w1 (hT.mod m)).mono (R' := fun e w' => e = .returned (.bool true) ∧ Below w.heap.size w w') fun e w' ⟨he, hm⟩ => ⟨he, (m.trans' hm).below _ (Nat.le_refl _) (fun _ _ x => x)⟩
  rcases out_64 n with h | ⟨h, h'⟩ | ⟨h, h'⟩
  · have hc := ha w (Mod.refl _ _)
    clear ha hb hN hT
    go_enter Tryd.func8, Tryd.ntmps8
    go_wp2_with ((with_reducible refine hc.mono ?_); rintro e w' ⟨rfl, hb⟩)
    go_ret
    exact ⟨rfl, hb⟩
  · have hc := ha w (Mod.refl _ _)
    clear ha hb hN hT
    go_enter Tryd.func8, Tryd.ntmps8
    go_wp2_with ((with_reducible refine hc.mono ?_); rintro e w' ⟨rfl, hb⟩)
    go_ret
    exact ⟨rfl, hb⟩
  · have hcl : (Bt.cl n : Int) = n := Bt.cl_of n h h'
    have hsum : Bt.count N n + Bt.count (18446744073709551615 - N) n = n := by
      rw [Bt.count_eq, Bt.count_eq]
      have := cnt_compl hN (Bt.cl n) (Bt.cl_le n)
      omega
    have h1 := count_call N hN n w
    have h2 := fun w => count_call (18446744073709551615 - N) (by omega) n w
    have hx := xor_ones N hN
    have hle1 : 0 ≤ Bt.count N n := by rw [Bt.count_eq]; omega
    have hle2 : 0 ≤ Bt.count (18446744073709551615 - N) n := by rw [Bt.count_eq]; omega
    have hw64 : wrap64 (Bt.count N n + Bt.count (18446744073709551615 - N) n) = n := by rw [hsum]; unfold wrap64; omega
    have h3 := fun w => clear_call N hN k w
    have h4 := fun w => set_call (Bt.clear N k) (Bt.clear_lt hN k) k w
    have h5 := fun w => set_call N hN k w
    have h6 := fun w => has_call N hN k w
    have hset : Bt.set (Bt.clear N k) k = Bt.set N k := by
      rcases okK_cases k with ⟨m, rfl, hm⟩ | ⟨_, he⟩ | ⟨_, _, he⟩
      · apply Nat.eq_of_testBit_eq
        intro i
        rw [Bt.set_testBit m hm, Bt.set_testBit m hm, Bt.clear_testBit m hm i hN]
        by_cases e : i = m <;> simp [e]
      · unfold Bt.set; rw [he]; rfl
      · unfold Bt.set; rw [he]; rfl
    rw [hset] at h4
    have herr : (Bt.err k = 0 ∧ (((Bt.set N k : Nat) : Int) == (N : Int)) = Bt.has N k) ∨ Bt.err k = 2 := by
      rcases okK_cases k with ⟨m, rfl, hm⟩ | ⟨_, he⟩ | ⟨_, _, he⟩
      · refine .inl ⟨by unfold Bt.err; rw [okK_nat hm]; rfl, ?_⟩
        rw [has_nat hm]
        cases hbit : N.testBit m with
        | true => rw [set_same hm hbit]; simp
        | false =>
          have := set_add hN hm hbit
          have hp := Nat.two_pow_pos m
          exact beqF (by omega)
      · exact .inr (by unfold Bt.err; rw [he]; rfl)
      · exact .inr (by unfold Bt.err; rw [he]; rfl)
    clear hset hsum hcl hb hN hT
    generalize Bt.count N n = c1 at *
    generalize Bt.count (18446744073709551615 - N) n = c2 at *
    generalize 18446744073709551615 - N = M at *
    generalize Bt.clear N k = a at *
    generalize Bt.set N k = b at *
    generalize Bt.err k = er at *
    generalize Bt.has N k = t at *
    have H := Lib.hid (And.intro h2 (And.intro h3 (And.intro h4 (And.intro h5 (And.intro h6 ha)))))
    clear h2 h3 h4 h5 h6 ha
    rcases herr with ⟨rfl, hbt⟩ | rfl
    · go_enter Tryd.func8, Tryd.ntmps8
      go_wp2_with fail
      refine h1.mono ?_
      rintro e w1 ⟨rfl, m1⟩
      have hc := H.out.1 w1
      clear h1
      go_wp2_with fail
      refine hc.mono ?_
      rintro e w2 ⟨rfl, m2⟩
      have m := m1.trans' m2
      clear hc m1 m2
      have k1 := H.out.2.1 w2
      have k2 := H.out.2.2.1 w2
      have k3 := H.out.2.2.2.1 w2
      have k4 := H.out.2.2.2.2.1 w2
      have k5 := H.out.2.2.2.2.2 w2 m
      go_wp2_with fail
      refine k1.mono ?_
      rintro e w' ⟨rfl, rfl⟩
      go_wp2_with fail
      refine k2.mono ?_
      rintro e w' ⟨rfl, rfl⟩
      go_wp2_with fail
      refine k3.mono ?_
      rintro e w' ⟨rfl, rfl⟩
      go_wp2_with fail
      refine k4.mono ?_
      rintro e w' ⟨rfl, rfl⟩
      go_wp2_with ((with_reducible refine k5.mono ?_); rintro e w' ⟨rfl, hb⟩)
      go_ret
      exact ⟨rfl, hb⟩
    · go_enter Tryd.func8, Tryd.ntmps8
      go_wp2_with fail
      refine h1.mono ?_
      rintro e w1 ⟨rfl, m1⟩
      have hc := H.out.1 w1
      clear h1
      go_wp2_with fail
      refine hc.mono ?_
      rintro e w2 ⟨rfl, m2⟩
      have m := m1.trans' m2
      clear hc m1 m2
      have k1 := H.out.2.1 w2
      have k2 := H.out.2.2.1 w2
      have k3 := H.out.2.2.2.1 w2
      have k5 := H.out.2.2.2.2.2 w2 m
      go_wp2_with fail
      refine k1.mono ?_
      rintro e w' ⟨rfl, rfl⟩
      go_wp2_with fail
      refine k2.mono ?_
      rintro e w' ⟨rfl, rfl⟩
      go_wp2_with fail
      refine k3.mono ?_
      rintro e w' ⟨rfl, rfl⟩
      go_wp2_with ((with_reducible refine k5.mono ?_); rintro e w' ⟨rfl, hb⟩)
      go_ret
      exact ⟨rfl, hb⟩
end Go.Proofs.YtphjonpokhmekaaDoor
