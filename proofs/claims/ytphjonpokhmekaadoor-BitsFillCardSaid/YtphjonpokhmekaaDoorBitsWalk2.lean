/- Free, Last, Count of package bits, walked. Condition: words are below 2^64; the table of math/bits holds what its initialiser lays. -/
import Derived.Test.YtphjonpokhmekaaDoorBitsWalk
namespace Go.Proofs.YtphjonpokhmekaaDoor
open Go Go.RowKit

theorem xor_ones (N : Nat) (hN : N < 18446744073709551616) : bits BinOp.xor IntKind.u64 IntKind.u64.max (N : Int) = ((18446744073709551615 - N : Nat) : Int) := by
  rw [show IntKind.u64.max = ((18446744073709551615 : Nat) : Int) by rfl, u64_xor_nat _ _ (by omega) hN]
  congr 1
  apply Nat.eq_of_testBit_eq
  intro i
  rw [Nat.testBit_xor, Bt.compl_testBit hN]
  have h1 : Nat.testBit 18446744073709551615 i = decide (i < 64) := Nat.testBit_two_pow_sub_one 64 i
  rw [h1]
  by_cases hi : i < 64
  · simp [hi]
  · rw [Bt.testBit_ge hN (by omega)]; simp [hi]

theorem Tab64.mod {w w' : World} (h : Tab64 w) (hm : Mod (fun _ => False) w w') : Tab64 w' := fun j hj => hm.cell (h j hj) (fun x => x)

theorem free_walk (N M C : Nat) (n r : Int) (w : World) (F : Nat)
    (hf : Calls Tryd.prog 25 #[.int .i64 n] w fun e w' => e = .returned (.func (.func 29) #[] #[.pointer (some ⟨w.heap.size, 0, none⟩)]) ∧ w.alloc (.cells #[.int .u64 (F : Nat)] 22) = w')
    (hx : bits BinOp.xor IntKind.u64 IntKind.u64.max (N : Int) = (M : Int))
    (h1 : Calls Tryd.prog 29 #[.int .u64 M, .pointer (some ⟨w.heap.size, 0, none⟩)] (w.alloc (.cells #[.int .u64 (F : Nat)] 22)) fun e w' => e = .returned (.int .u64 (C : Nat)) ∧ w.alloc (.cells #[.int .u64 (F : Nat)] 22) = w')
    (hc : C = 0 ∧ r = -1 ∨ ((C : Int) == 0) = false ∧ Calls Tryd.prog 26 #[.int .u64 C] (w.alloc (.cells #[.int .u64 (F : Nat)] 22)) fun e w' => e = .returned (.int .i64 r) ∧ w.alloc (.cells #[.int .u64 (F : Nat)] 22) = w') :
    Calls Tryd.prog 16 #[.int .u64 N, .int .i64 n] w fun e w' => e = .returned (.int .i64 r) ∧ w.alloc (.cells #[.int .u64 (F : Nat)] 22) = w' := by
  rcases hc with ⟨rfl, rfl⟩ | ⟨hz, hc⟩
  · go_enter Tryd.func16, Tryd.ntmps16
    go_wp2_with fail
    refine hf.mono ?_
    rintro e w' ⟨rfl, rfl⟩
    go_wp2_with fail
    refine h1.mono ?_
    rintro e w' ⟨rfl, rfl⟩
    clear h1 hf
    go_wp2
    go_ret
    exact ⟨rfl, rfl⟩
  · go_enter Tryd.func16, Tryd.ntmps16
    go_wp2_with fail
    refine hf.mono ?_
    rintro e w' ⟨rfl, rfl⟩
    go_wp2_with fail
    refine h1.mono ?_
    rintro e w' ⟨rfl, rfl⟩
    clear h1 hf
    go_wp2_with fail
    refine hc.mono ?_
    rintro e w' ⟨rfl, rfl⟩
    go_wp2
    go_ret
    exact ⟨rfl, rfl⟩

theorem free_call (N : Nat) (hN : N < 18446744073709551616) (n : Int) (w : World) (hT : Tab64 w) :
    Calls Tryd.prog 16 #[.int .u64 N, .int .i64 n] w fun e w' => e = .returned (.int .i64 (Bt.free N n)) ∧ Mod (fun _ => False) w w' := by
  have hm : Mod (fun _ => False) w (w.alloc (.cells #[.int .u64 (Bt.full n : Nat)] 22)) := (Mod.refl _ w).alloc _
  have h1 := cut1_call (18446744073709551615 - N) (by omega) n ⟨w.heap.size, 0, none⟩ (w.alloc (.cells #[.int .u64 (Bt.full n : Nat)] 22)) (by rw [cell_at (heap_alloc_new w _)]; rfl)
  refine (free_walk N (18446744073709551615 - N) (Bt.cut (18446744073709551615 - N) n) n (Bt.free N n) w (Bt.full n) (cut_call n w) (xor_ones N hN) h1 ?_).mono fun e w' ⟨he, hw⟩ => ⟨he, hw ▸ hm⟩
  unfold Bt.free
  by_cases h0 : Bt.cut (18446744073709551615 - N) n = 0
  · exact .inl ⟨h0, by rw [if_pos h0]⟩
  · rw [if_neg h0]
    exact .inr ⟨beqF (by omega), ctz_call _ (Bt.cut_lt _ _) h0 _ (hT.mod hm)⟩

theorem last_call (N : Nat) (hN : N < 18446744073709551616) (n : Int) (w : World) :
    Calls Tryd.prog 18 #[.int .u64 N, .int .i64 n] w fun e w' => e = .returned (.int .i64 (Bt.last N n)) ∧ Mod (fun _ => False) w w' := by
  have hm : Mod (fun _ => False) w (w.alloc (.cells #[.int .u64 (Bt.full n : Nat)] 22)) := (Mod.refl _ w).alloc _
  have h1 := cut1_call N hN n ⟨w.heap.size, 0, none⟩ (w.alloc (.cells #[.int .u64 (Bt.full n : Nat)] 22)) (by rw [cell_at (heap_alloc_new w _)]; rfl)
  have h2 := len_call (Bt.cut N n) (Bt.cut_lt _ _) (w.alloc (.cells #[.int .u64 (Bt.full n : Nat)] 22))
  have hb : Lib.bitLen (Bt.cut N n) ≤ 64 := Lib.bitLen_le _ 64 (Nat.le_refl _) (Bt.cut_lt _ _)
  have hf := cut_call n w
  unfold Bt.last
  generalize Lib.bitLen (Bt.cut N n) = b at *
  generalize Bt.cut N n = c at *
  generalize Bt.full n = F at *
  go_enter Tryd.func18, Tryd.ntmps18
  go_wp2_with fail
  refine hf.mono ?_
  rintro e w' ⟨rfl, rfl⟩
  go_wp2_with fail
  refine h1.mono ?_
  rintro e w' ⟨rfl, rfl⟩
  go_wp2_with fail
  refine h2.mono ?_
  rintro e w' ⟨rfl, rfl⟩
  go_wp2
  go_ret
  exact ⟨rfl, hm⟩

theorem count_call (N : Nat) (hN : N < 18446744073709551616) (n : Int) (w : World) :
    Calls Tryd.prog 20 #[.int .u64 N, .int .i64 n] w fun e w' => e = .returned (.int .i64 (Bt.count N n)) ∧ Mod (fun _ => False) w w' := by
  have hm : Mod (fun _ => False) w (w.alloc (.cells #[.int .u64 (Bt.full n : Nat)] 22)) := (Mod.refl _ w).alloc _
  have h1 := cut1_call N hN n ⟨w.heap.size, 0, none⟩ (w.alloc (.cells #[.int .u64 (Bt.full n : Nat)] 22)) (by rw [cell_at (heap_alloc_new w _)]; rfl)
  have h2 := ones_call (Bt.cut N n) (Bt.cut_lt _ _) (w.alloc (.cells #[.int .u64 (Bt.full n : Nat)] 22))
  have hf := cut_call n w
  unfold Bt.count
  generalize Lib.onesCount (Bt.cut N n) = b at *
  generalize Bt.cut N n = c at *
  generalize Bt.full n = F at *
  go_enter Tryd.func20, Tryd.ntmps20
  go_wp2_with fail
  refine hf.mono ?_
  rintro e w' ⟨rfl, rfl⟩
  go_wp2_with fail
  refine h1.mono ?_
  rintro e w' ⟨rfl, rfl⟩
  go_wp2_with fail
  refine h2.mono ?_
  rintro e w' ⟨rfl, rfl⟩
  go_wp2
  go_ret
  exact ⟨rfl, hm⟩

/-- The law's own check. -/
theorem awake_call (w : World) (hT : Tab64 w) : Calls Tryd.prog 15 #[] w fun e w' => e = .returned (.bool true) ∧ Mod (fun _ => False) w w' := by
  have h1 := set_call 5 (by omega) 1 w
  have h2 := set_call 0 (by omega) 64 w
  have h3 := free_call 7 (by omega) 3 w hT
  rw [show Bt.set 5 1 = 7 by decide, show Bt.err 1 = 0 by decide] at h1
  rw [show Bt.set 0 64 = 0 by decide, show Bt.err 64 = 2 by decide] at h2
  rw [show Bt.free 7 3 = -1 by decide] at h3
  go_enter Tryd.func15, Tryd.ntmps15
  go_wp2_with fail
  refine h1.mono ?_
  rintro e w' ⟨rfl, rfl⟩
  go_wp2_with fail
  refine h2.mono ?_
  rintro e w' ⟨rfl, rfl⟩
  go_wp2_with fail
  refine h3.mono ?_
  rintro e w1 ⟨rfl, m1⟩
  have h4 := free_call 7 (by omega) 4 w1 (hT.mod m1)
  rw [show Bt.free 7 4 = 3 by decide +kernel] at h4
  clear h1 h2 h3
  go_wp2_with fail
  refine h4.mono ?_
  rintro e w2 ⟨rfl, m2⟩
  have h5 := last_call 5 (by omega) 64 w2
  rw [show Bt.last 5 64 = 2 by decide +kernel] at h5
  clear h4
  go_wp2_with fail
  refine h5.mono ?_
  rintro e w3 ⟨rfl, m3⟩
  have h6 := full_call 3 w3
  rw [show Bt.full 3 = 7 by decide] at h6
  clear h5
  go_wp2_with fail
  refine h6.mono ?_
  rintro e w4 ⟨rfl, rfl⟩
  go_wp2
  go_ret
  exact ⟨rfl, (m1.trans' m2).trans' m3⟩
end Go.Proofs.YtphjonpokhmekaaDoor
