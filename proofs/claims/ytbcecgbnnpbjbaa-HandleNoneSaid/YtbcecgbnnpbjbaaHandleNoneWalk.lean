/- HandleNone, walked: a table that is not there, or that nobody made. No condition. -/
import Derived.Test.YtbcecgbnnpbjbaaHandleNew
namespace Go.Proofs.Ytbcecgbnnpbjbaa
open Go Go.RowKit

theorem handleNone_walk (a0 a1 : Int) (w : World) (_w0 : (Lit.int .u64 a0).wf = true) (_w1 : (Lit.int .i64 a1).wf = true) :
    Calls Try.prog 8 #[.int .u64 a0, .int .i64 a1] w fun e w' => e = .returned (.bool true) ∧ Below w.heap.size w w' := by
  go_enter Try.func8, Try.ntmps8
  go_wp2_with fail
  go_loop [5, 7] (fun t i => ∃ j : Nat, i = .int .i64 j ∧ (j ≤ 1 ∧ t = .pointer none ∨ j = 2 ∧ t = .pointer (some ⟨w.heap.size, 0, none⟩))) (fun _ i => 2 - (intOf i).toNat)
  case atStart => exact ⟨0, rfl, .inl ⟨by omega, rfl⟩⟩
  case round =>
    obtain ⟨j, rfl, hj⟩ := hrel
    have hN0 := none_nil (w.alloc (.cells #[.int .i64 0, .int .u32 0, .slice none 0 0] 60))
    have hN1 := none_zero (w.alloc (.cells #[.int .i64 0, .int .u32 0, .slice none 0 0] 60)) w.heap.size 0 rfl (by simp)
    rcases hj with ⟨hj, rfl⟩ | ⟨rfl, rfl⟩
    · have h01 : j = 0 ∨ j = 1 := by omega
      rcases h01 with rfl | rfl
      · have c1 := open_none a1 hN0
        have c2 := at_none a0 hN0
        have c3 := move_none a0 a1 hN0
        have c4 := close_none a0 hN0
        have c5 := live_none hN0
        have c6 := used_none hN0
        clear hN1 hN0
        go_wp2_with (first | ((with_reducible refine c1.mono ?_); rintro e w' ⟨rfl, rfl⟩) | ((with_reducible refine c2.mono ?_); rintro e w' ⟨rfl, rfl⟩) | ((with_reducible refine c3.mono ?_); rintro e w' ⟨rfl, rfl⟩) | ((with_reducible refine c4.mono ?_); rintro e w' ⟨rfl, rfl⟩) | ((with_reducible refine c5.mono ?_); rintro e w' ⟨rfl, rfl⟩) | ((with_reducible refine c6.mono ?_); rintro e w' ⟨rfl, rfl⟩))
        go_round
        case rel => exact ⟨1, rfl, .inl ⟨by omega, rfl⟩⟩
        case measure => simp [intOf]
      · have c1 := open_none a1 hN1
        have c2 := at_none a0 hN1
        have c3 := move_none a0 a1 hN1
        have c4 := close_none a0 hN1
        have c5 := live_none hN1
        have c6 := used_none hN1
        clear hN1 hN0
        go_wp2_with (first | ((with_reducible refine c1.mono ?_); rintro e w' ⟨rfl, rfl⟩) | ((with_reducible refine c2.mono ?_); rintro e w' ⟨rfl, rfl⟩) | ((with_reducible refine c3.mono ?_); rintro e w' ⟨rfl, rfl⟩) | ((with_reducible refine c4.mono ?_); rintro e w' ⟨rfl, rfl⟩) | ((with_reducible refine c5.mono ?_); rintro e w' ⟨rfl, rfl⟩) | ((with_reducible refine c6.mono ?_); rintro e w' ⟨rfl, rfl⟩))
        go_round
        case rel => exact ⟨2, rfl, .inr ⟨rfl, rfl⟩⟩
        case measure => simp [intOf]
    · clear hN1 hN0
      go_wp2_with fail
      refine (awake_call _).mono ?_
      rintro e w' ⟨rfl, hm⟩
      go_wp2
      go_ret
      exact ⟨rfl, ((Below.refl _ _).alloc (Nat.le_refl _) _).trans (hm.below _ (by simp) (fun _ _ x => x))⟩
end Go.Proofs.Ytbcecgbnnpbjbaa
