/- HandleEnds, walked. No condition. -/
import Derived.Test.YtbcecgbnnpbjbaaHandleNew
namespace Go.Proofs.Ytbcecgbnnpbjbaa
open Go Go.RowKit

theorem handleEnds_out (a0 a1 : Int) (w : World) (h : (decide (a0 < 1) || decide (6 < a0) || decide (a1 < 1) || decide (6 < a1)) = true) :
    Calls Try.prog 5 #[.int .i64 a0, .int .u32 a1] w fun e w' => e = .returned (.bool true) ∧ Below w.heap.size w w' := by
  have ha := (awake_call w).mono (R' := fun e w' => e = .returned (.bool true) ∧ Below w.heap.size w w') fun e w' ⟨he, hm⟩ => ⟨he, hm.below _ (Nat.le_refl _) (fun _ _ x => x)⟩
  by_cases c1 : a0 < 1
  · clear h
    go_enter Try.func5, Try.ntmps5
    go_wp2_with ((with_reducible refine ha.mono ?_); rintro e w' ⟨rfl, hb⟩)
    go_ret
    exact ⟨rfl, hb⟩
  by_cases c2 : 6 < a0
  · clear h
    go_enter Try.func5, Try.ntmps5
    go_wp2_with ((with_reducible refine ha.mono ?_); rintro e w' ⟨rfl, hb⟩)
    go_ret
    exact ⟨rfl, hb⟩
  by_cases c3 : a1 < 1
  · clear h
    go_enter Try.func5, Try.ntmps5
    go_wp2_with ((with_reducible refine ha.mono ?_); rintro e w' ⟨rfl, hb⟩)
    go_ret
    exact ⟨rfl, hb⟩
  have c4 : 6 < a1 := by simpa [c1, c2, c3] using h
  clear h
  go_enter Try.func5, Try.ntmps5
  go_wp2_with ((with_reducible refine ha.mono ?_); rintro e w' ⟨rfl, hb⟩)
  go_ret
  exact ⟨rfl, hb⟩

theorem handleEnds_in (m n : Nat) (w : World) (h1 : 1 ≤ m) (h2 : m ≤ 6) (h3 : 1 ≤ n) (h4 : n ≤ 6) :
    Calls Try.prog 5 #[.int .i64 m, .int .u32 n] w fun e w' => e = .returned (.bool true) ∧ Below w.heap.size w w' := by
  have hall := HTbl.ends_all ⟨m - 1, by omega⟩ ⟨n - 1, by omega⟩
  have e1 : ((m - 1 : Nat) : Int) + 1 = m := by omega
  have e2 : ((n - 1 : Nat) : Int) + 1 = n := by omega
  simp only [Nat.sub_add_cancel h1, Nat.sub_add_cancel h3, e1, e2] at hall
  have HA := Lib.hid hall
  have hmul : wrap64 ((m : Int) * (n : Int)) = ((m * n : Nat) : Int) := by
    have : m * n ≤ 6 * 6 := Nat.mul_le_mul h2 h4
    unfold wrap64; rw [← Int.natCast_mul]; omega
  have hmn : m * n ≤ 36 := Nat.mul_le_mul h2 h4
  clear hall e1 e2
  go_enter Try.func5, Try.ntmps5
  go_wp2_with fail
  refine (new_ok w m n (by omega) (by omega) (by omega) (by omega)).mono ?_
  rintro e w0 ⟨rfl, hT0, hM0⟩
  have h0 := NT.new (Mod.refl _ w) hT0 hM0
  clear hT0 hM0
  go_wp2_with fail
  go_loopw [7] (fun i wr => ∃ (j : Nat) (v : Value), i = .int .i64 j ∧ j ≤ m * n ∧ NT w wr w.heap.size v (HTbl.endsAt m n j)) (fun i _ => m * n - (intOf i).toNat)
  case atStart => exact ⟨0, _, rfl, Nat.zero_le _, h0⟩
  case round =>
    obtain ⟨j, v, rfl, hj, hN⟩ := hrel
    by_cases hlt : j < m * n
    · have hg : HTbl.endsGood m n j = true := (List.all_eq_true.1 HA.out.1) j (List.mem_range.2 hlt)
      unfold HTbl.endsGood at hg
      simp only [Bool.and_eq_true, beq_iff_eq] at hg
      have hr := HTbl.open_range hN.tab.ok (j : Int)
      have hs : HTbl.endsAt m n (j + 1) = (((HTbl.endsAt m n j).open' (j : Int)).2.2.close ((HTbl.endsAt m n j).open' (j : Int)).1).2 := rfl
      generalize hT : HTbl.endsAt m n j = T at *
      have ho : T.open' (j : Int) = ((T.open' (j : Int)).1, 0, (T.open' (j : Int)).2.2) := by rw [← hg.1]
      have hc1 := hN.open_eq (j : Int) (by omega) ho
      have HX := Lib.hid (And.intro hs (And.intro hT (And.intro hr hg)))
      clear hs hT hr hg ho hN h0
      go_wp2_with fail
      refine hc1.mono ?_
      rintro e w1 ⟨rfl, v1, hN1, _⟩
      obtain ⟨hs, hT, hr, hg⟩ := HX.out
      have hc2 := hN1.close_eq _ hr.1 hr.2 (er := 0) (T' := HTbl.endsAt m n (j + 1)) (by rw [hs, ← hg.2])
      clear hs hT hr hg hN1 hc1
      go_wp2_with fail
      refine hc2.mono ?_
      rintro e w2 ⟨rfl, hN2, _⟩
      clear hc2
      go_wp2
      go_roundw
      case rel => exact ⟨j + 1, _, by go_num, by omega, hN2⟩
      case measure => simp [intOf]; omega
    · have hj' : j = m * n := by omega
      subst hj'
      have hg := HA.out.2
      unfold HTbl.endsLast at hg
      simp only [Bool.and_eq_true, beq_iff_eq] at hg
      generalize HTbl.endsAt m n (m * n) = T at *
      have ho : T.open' 7 = (0, 10, (T.open' 7).2.2) := by rw [← hg.1.1.1, ← hg.1.1.2]
      have hc1 := hN.open_eq 7 (by omega) ho
      have hl1 : ((T.open' 7).2.2.l.length : Int) = m := by rw [hg.1.2]; omega
      have hl2 := hg.2
      clear hg ho hN h0 HA
      generalize (T.open' 7).2.2 = T' at *
      have HX := Lib.hid (And.intro hl1 hl2)
      clear hl1 hl2
      go_wp2_with fail
      refine hc1.mono ?_
      rintro e w1 ⟨rfl, v1, hN1, _⟩
      have hu := hN1.used_eq
      rw [HX.out.1] at hu
      have hlv := hN1.live_eq
      rw [HX.out.2] at hlv
      clear hc1 hN1
      go_wp2_with fail
      refine hu.mono ?_
      rintro e w1 ⟨rfl, rfl⟩
      clear hu
      go_wp2_with fail
      refine hlv.mono ?_
      rintro e w2 ⟨sa, cap, rfl, hN2, _, _⟩
      clear hlv
      go_wp2_with fail
      refine (awake_call _).mono ?_
      rintro e w3 ⟨rfl, hm⟩
      go_wp2
      go_ret
      exact ⟨rfl, (hN2.mod.trans' hm).below _ (Nat.le_refl _) (fun _ _ x => x)⟩

theorem handleEnds_walk (a0 a1 : Int) (w : World) (_w0 : (Lit.int .i64 a0).wf = true) (_w1 : (Lit.int .u32 a1).wf = true) :
    Calls Try.prog 5 #[.int .i64 a0, .int .u32 a1] w fun e w' => e = .returned (.bool true) ∧ Below w.heap.size w w' := by
  by_cases h : (decide (a0 < 1) || decide (6 < a0) || decide (a1 < 1) || decide (6 < a1)) = true
  · exact handleEnds_out a0 a1 w h
  · simp only [Bool.or_eq_true, decide_eq_true_eq, not_or] at h
    obtain ⟨m, rfl⟩ := Int.eq_ofNat_of_zero_le (show 0 ≤ a0 by omega)
    obtain ⟨n, rfl⟩ := Int.eq_ofNat_of_zero_le (show 0 ≤ a1 by omega)
    exact handleEnds_in m n w (by omega) (by omega) (by omega) (by omega)
end Go.Proofs.Ytbcecgbnnpbjbaa
