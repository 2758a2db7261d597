/- BitsNear, walked. Condition: the table of math/bits holds what its initialiser lays. -/
import Derived.Test.YtphjonpokhmekaaDoorBitsTurnWalk
namespace Go.Proofs.YtphjonpokhmekaaDoor
open Go Go.RowKit

theorem cnt_all (N : Nat) : ∀ k, Bt.cnt N k = k ↔ ∀ i, i < k → N.testBit i = true := by
  intro k
  induction k with
  | zero => simp [Bt.cnt]
  | succ k ih =>
    have e : Bt.cnt N (k + 1) = Bt.cnt N k + (if N.testBit k then 1 else 0) := rfl
    have hl := Bt.cnt_le N k
    constructor
    · intro h i hi
      rw [e] at h
      have hb : N.testBit k = true := by
        cases hb : N.testBit k with
        | true => rfl
        | false => rw [hb] at h; simp at h; omega
      rw [hb] at h
      by_cases hik : i = k
      · rw [hik]; exact hb
      · exact ih.1 (by simpa using h) i (by omega)
    · intro h
      rw [e, ih.2 (fun i hi => h i (by omega)), h k (by omega)]; rfl
theorem cnt_none (N : Nat) : ∀ k, Bt.cnt N k = 0 ↔ ∀ i, i < k → N.testBit i = false := by
  intro k
  induction k with
  | zero => simp [Bt.cnt]
  | succ k ih =>
    have e : Bt.cnt N (k + 1) = Bt.cnt N k + (if N.testBit k then 1 else 0) := rfl
    constructor
    · intro h i hi
      rw [e] at h
      have hb : N.testBit k = false := by
        cases hb : N.testBit k with
        | false => rfl
        | true => rw [hb] at h; simp at h
      by_cases hik : i = k
      · rw [hik]; exact hb
      · exact ih.1 (by rw [hb] at h; simpa using h) i (by omega)
    · intro h
      rw [e, ih.2 (fun i hi => h i (by omega)), h k (by omega)]; rfl

theorem free_neg {N : Nat} (hN : N < 18446744073709551616) (n : Int) (h0 : 0 ≤ n) (h1 : n ≤ 64) : decide (Bt.free N n < 0) = (Bt.count N n == n) := by
  have hc := Bt.cl_of n h0 h1
  rw [Bt.count_eq, Bool.eq_iff_iff]
  simp only [decide_eq_true_eq, beq_iff_eq]
  have key : ((Bt.cnt N (Bt.cl n) : Int) = n) ↔ Bt.cnt N (Bt.cl n) = Bt.cl n := by omega
  rw [key, cnt_all]
  rcases Bt.free_spec hN n with ⟨e, h⟩ | ⟨k, e, hk, hb, _⟩
  · rw [e]; exact ⟨fun _ => h, fun _ => by omega⟩
  · rw [e]
    refine ⟨fun h => by omega, fun h => ?_⟩
    rw [h k hk] at hb; cases hb
theorem last_neg (N : Nat) (n : Int) : decide (Bt.last N n < 0) = (Bt.count N n == 0) := by
  rw [Bt.count_eq, Bool.eq_iff_iff]
  simp only [decide_eq_true_eq, beq_iff_eq]
  have key : ((Bt.cnt N (Bt.cl n) : Int) = 0) ↔ Bt.cnt N (Bt.cl n) = 0 := by omega
  rw [key, cnt_none]
  rcases Bt.last_spec N n with ⟨e, h⟩ | ⟨k, e, hk, hb, _⟩
  · rw [e]; exact ⟨fun _ => h, fun _ => by omega⟩
  · rw [e]
    refine ⟨fun h => by omega, fun h => ?_⟩
    rw [h k hk] at hb; cases hb

theorem near_true {N : Nat} (hN : N < 18446744073709551616) {n : Int} {j : Nat} (hj : j < Bt.cl n) (hb : N.testBit j = true) : (Bt.free N n == (j : Int)) = false ∧ decide (Bt.last N n < (j : Int)) = false := by
  constructor
  · rcases Bt.free_spec hN n with ⟨e, _⟩ | ⟨k, e, _, h, _⟩
    · exact beqF (by omega)
    · refine beqF fun x => ?_
      have : k = j := by omega
      subst this
      rw [h] at hb; cases hb
  · rcases Bt.last_spec N n with ⟨_, h⟩ | ⟨k, e, _, _, h⟩
    · rw [h j hj] at hb; cases hb
    · refine ltF ?_
      rcases Nat.lt_or_ge k j with h2 | h2
      · rw [h j h2 hj] at hb; cases hb
      · omega
theorem near_false {N : Nat} (hN : N < 18446744073709551616) {n : Int} {j : Nat} (hj : j < Bt.cl n) (hb : N.testBit j = false) : decide (0 ≤ Bt.free N n) = true ∧ decide ((j : Int) < Bt.free N n) = false ∧ ((j : Int) == Bt.last N n) = false := by
  refine ⟨?_, ?_, ?_⟩
  · rcases Bt.free_spec hN n with ⟨_, h⟩ | ⟨k, e, _⟩
    · rw [h j hj] at hb; cases hb
    · exact leT (by omega)
  · rcases Bt.free_spec hN n with ⟨e, _⟩ | ⟨k, e, _, _, h⟩
    · exact ltF (by omega)
    · refine ltF ?_
      rcases Nat.lt_or_ge j k with h2 | h2
      · rw [h j h2] at hb; cases hb
      · omega
  · rcases Bt.last_spec N n with ⟨e, _⟩ | ⟨k, e, _, h, _⟩
    · exact beqF (by omega)
    · refine beqF fun x => ?_
      have : k = j := by omega
      subst this
      rw [h] at hb; cases hb

set_option maxHeartbeats 2000000 in
theorem bitsNear_walk (a0 n : Int) (w : World) (w0 : (Lit.int .u64 a0).wf = true) (_w1 : (Lit.int .i64 n).wf = true) (hT : Tab64 w) :
    Calls Tryd.prog 6 #[.int .u64 a0, .int .i64 n] w fun e w' => e = .returned (.bool true) ∧ Below w.heap.size w w' := by
  have hb := bounds_u64 w0
  obtain ⟨N, rfl⟩ := Int.eq_ofNat_of_zero_le hb.1
  have hN : N < 18446744073709551616 := by omega
  have ha := fun (w1 : World) (m : Mod (fun _ => False) w w1) => (awake_call w1 (hT.mod m)).mono (R' := fun e w' => e = .returned (.bool true) ∧ Below w.heap.size w w') fun e w' ⟨he, hm⟩ => ⟨he, (m.trans' hm).below _ (Nat.le_refl _) (fun _ _ x => x)⟩
  rcases out_64 n with h | ⟨h, h'⟩ | ⟨h, h'⟩
  · have hc := ha w (Mod.refl _ _)
    clear ha hb hN hT
    go_enter Tryd.func6, Tryd.ntmps6
    go_wp2_with ((with_reducible refine hc.mono ?_); rintro e w' ⟨rfl, hb⟩)
    go_ret
    exact ⟨rfl, hb⟩
  · have hc := ha w (Mod.refl _ _)
    clear ha hb hN hT
    go_enter Tryd.func6, Tryd.ntmps6
    go_wp2_with ((with_reducible refine hc.mono ?_); rintro e w' ⟨rfl, hb⟩)
    go_ret
    exact ⟨rfl, hb⟩
  · have h1 := free_call N hN n w hT
    have h2 := fun w => last_call N hN n w
    have h3 := fun w => count_call N hN n w
    have h4 := fun (w : World) (j : Nat) (hj : j < 64) => show Calls Tryd.prog 13 #[.int .u64 N, .int .i64 j] w fun e w' => e = .returned (.bool (N.testBit j)) ∧ w = w' by have := has_call N hN j w; rw [has_nat hj] at this; exact this
    have f1 := free_neg hN n h h'
    have f2 := last_neg N n
    have g1 := fun j hj hb => near_true (N := N) (n := n) (j := j) hN hj hb
    have g2 := fun j hj hb => near_false (N := N) (n := n) (j := j) hN hj hb
    have hcl := Bt.cl_of n h h'
    obtain ⟨c, hc⟩ : ∃ c, Bt.cl n = c := ⟨_, rfl⟩
    rw [hc] at g1 g2 hcl
    have H := Lib.hid (And.intro h2 (And.intro h3 (And.intro h4 (And.intro g1 (And.intro g2 (And.intro ha (And.intro f1 f2)))))))
    subst hcl
    clear h2 h3 h4 g1 g2 ha hb hN hT hc f1 f2
    generalize Bt.free N (c : Int) = F at *
    generalize Bt.last N (c : Int) = L at *
    generalize Bt.count N (c : Int) = C at *
    have dd1 : decide ((c : Int) < 0) = false := ltF h
    have dd2 : decide (64 < (c : Int)) = false := ltF h'
    go_enter Tryd.func6, Tryd.ntmps6
    go_wp2_with fail
    refine h1.mono ?_
    rintro e w1 ⟨rfl, m1⟩
    have hc := H.out.1 w1
    clear h1
    go_wp2_with fail
    refine hc.mono ?_
    rintro e w2 ⟨rfl, m2⟩
    have m := Lib.hid (m1.trans' m2)
    clear hc m1 m2
    go_wp2_with fail
    go_loop [7] (fun i => ∃ j : Nat, j ≤ c ∧ i = .int .i64 j) (fun i => c - (intOf i).toNat)
    case atStart => exact ⟨0, Nat.zero_le _, rfl⟩
    case round =>
      obtain ⟨j, hj, rfl⟩ := hrel
      by_cases hlt : j < c
      · have hh := H.out.2.2.1 w2 j (by omega)
        cases hb : N.testBit j with
        | true =>
          obtain ⟨b1, b2⟩ := H.out.2.2.2.1 j hlt hb
          rw [hb] at hh
          clear hb
          by_cases hjl : (j : Int) = L
          · subst hjl
            go_wp2_with ((with_reducible refine hh.mono ?_); rintro e w' ⟨rfl, rfl⟩)
            all_goals
              go_round
              case rel => exact ⟨j + 1, hlt, by go_num⟩
              case measure => simp [intOf]; omega
          · have hjb : ((j : Int) == L) = false := beqF hjl
            clear hjl
            go_wp2_with ((with_reducible refine hh.mono ?_); rintro e w' ⟨rfl, rfl⟩)
            all_goals
              go_round
              case rel => exact ⟨j + 1, hlt, by go_num⟩
              case measure => simp [intOf]; omega
        | false =>
          obtain ⟨b1, b2, b3⟩ := H.out.2.2.2.2.1 j hlt hb
          rw [hb] at hh
          clear hb
          by_cases hjf : F = (j : Int)
          · subst hjf
            go_wp2_with ((with_reducible refine hh.mono ?_); rintro e w' ⟨rfl, rfl⟩)
            all_goals
              go_round
              case rel => exact ⟨j + 1, hlt, by go_num⟩
              case measure => simp [intOf]; omega
          · have hfb : (F == (j : Int)) = false := beqF hjf
            clear hjf
            go_wp2_with ((with_reducible refine hh.mono ?_); rintro e w' ⟨rfl, rfl⟩)
            all_goals
              go_round
              case rel => exact ⟨j + 1, hlt, by go_num⟩
              case measure => simp [intOf]; omega
      · have hjc : j = c := by omega
        subst hjc
        obtain ⟨f1, f2⟩ := H.out.2.2.2.2.2.2
        have q1 := H.out.2.1 w2
        go_wp2_with fail
        refine q1.mono ?_
        rintro e w3 ⟨rfl, m3⟩
        have mm := m.out.trans' m3
        have q2 := H.out.2.1 w3
        clear q1 m m3
        go_wp2_with fail
        refine q2.mono ?_
        rintro e w4 ⟨rfl, m4⟩
        have q3 := H.out.2.2.2.2.2.1 w4 (mm.trans' m4)
        clear q2 mm m4
        go_wp2_with ((with_reducible refine q3.mono ?_); rintro e w' ⟨rfl, hb⟩)
        go_ret
        exact ⟨rfl, hb⟩
end Go.Proofs.YtphjonpokhmekaaDoor
