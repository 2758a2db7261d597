/- SlabNone, walked: an arena that is not there, or that nobody made; the closing question that every law asks. No condition. -/
import Derived.Test.YtnkdopaajpbjfaaSlabPages
namespace Go.Proofs.Ytnkdopaajpbjfaa
open Go Go.RowKit

theorem zat {w : World} {p : Value} (n : Int) (hN : Calls Try.prog 26 #[p] w fun e w' => e = .returned (.bool true) ∧ w = w') :
    Calls Try.prog 27 #[p, .int .i64 n] w fun e w' => e = .returned (.tuple #[.pointer none, .int .i64 1]) ∧ w = w' := by
  go_enter Try.func27, Try.ntmps27
  go_wp2_with ((with_reducible refine hN.mono ?_); rintro e w' ⟨rfl, rfl⟩)
  go_ret2
  exact ⟨rfl, rfl⟩
theorem zGrant {w : World} {p : Value} (n : Int) (hN : Calls Try.prog 26 #[p] w fun e w' => e = .returned (.bool true) ∧ w = w') :
    Calls Try.prog 14 #[p, .int .i64 n] w fun e w' => e = .returned (.tuple #[.int .i64 0, .int .i64 1]) ∧ w = w' := by
  go_enter Try.func14, Try.ntmps14
  go_wp2
  go_step3
  go_wp2_with ((with_reducible refine hN.mono ?_); rintro e w' ⟨rfl, rfl⟩)
  try rw [Exit.noGoto_ret]
  go_ret2
  exact ⟨rfl, rfl⟩
theorem zRead {w : World} {p : Value} (n : Int) (hN : Calls Try.prog 26 #[p] w fun e w' => e = .returned (.bool true) ∧ w = w') :
    Calls Try.prog 12 #[p, .int .i64 n] w fun e w' => e = .returned (.tuple #[.int .u64 0, .int .i64 1]) ∧ w = w' := by
  have hc := zat n hN
  clear hN
  go_enter Try.func12, Try.ntmps12
  go_wp2_with ((with_reducible refine hc.mono ?_); rintro e w' ⟨rfl, rfl⟩)
  go_ret2
  exact ⟨rfl, rfl⟩
theorem zWrite {w : World} {p : Value} (n v : Int) (hN : Calls Try.prog 26 #[p] w fun e w' => e = .returned (.bool true) ∧ w = w') :
    Calls Try.prog 13 #[p, .int .i64 n, .int .u64 v] w fun e w' => e = .returned (.int .i64 1) ∧ w = w' := by
  have hc := zat n hN
  clear hN
  go_enter Try.func13, Try.ntmps13
  go_wp2_with ((with_reducible refine hc.mono ?_); rintro e w' ⟨rfl, rfl⟩)
  go_ret
  exact ⟨rfl, rfl⟩
theorem zRelease {w : World} {p : Value} (n v : Int) (hN : Calls Try.prog 26 #[p] w fun e w' => e = .returned (.bool true) ∧ w = w') :
    Calls Try.prog 16 #[p, .int .i64 n, .int .i64 v] w fun e w' => e = .returned (.int .i64 1) ∧ w = w' := by
  go_enter Try.func16, Try.ntmps16
  go_wp2_with ((with_reducible refine hN.mono ?_); rintro e w' ⟨rfl, rfl⟩)
  go_ret
  exact ⟨rfl, rfl⟩
theorem zMove {w : World} {p : Value} (n v x : Int) (hN : Calls Try.prog 26 #[p] w fun e w' => e = .returned (.bool true) ∧ w = w') :
    Calls Try.prog 25 #[p, .int .i64 n, .int .i64 v, .int .i64 x] w fun e w' => e = .returned (.int .i64 1) ∧ w = w' := by
  go_enter Try.func25, Try.ntmps25
  go_wp2_with ((with_reducible refine hN.mono ?_); rintro e w' ⟨rfl, rfl⟩)
  go_ret
  exact ⟨rfl, rfl⟩
theorem zClaim {w : World} {p : Value} (n : Int) (hN : Calls Try.prog 26 #[p] w fun e w' => e = .returned (.bool true) ∧ w = w') :
    Calls Try.prog 11 #[p, .int .i64 n] w fun e w' => e = .returned (.int .i64 1) ∧ w = w' := by
  go_enter Try.func11, Try.ntmps11
  go_wp2_with ((with_reducible refine hN.mono ?_); rintro e w' ⟨rfl, rfl⟩)
  go_ret
  exact ⟨rfl, rfl⟩
theorem zIs {w : World} {p : Value} (n : Int) (hN : Calls Try.prog 26 #[p] w fun e w' => e = .returned (.bool true) ∧ w = w') :
    Calls Try.prog 10 #[p, .int .i64 n] w fun e w' => e = .returned (.bool false) ∧ w = w' := by
  go_enter Try.func10, Try.ntmps10
  go_wp2_with ((with_reducible refine hN.mono ?_); rintro e w' ⟨rfl, rfl⟩)
  go_ret
  exact ⟨rfl, rfl⟩
theorem zPages {w : World} {p : Value} (hN : Calls Try.prog 26 #[p] w fun e w' => e = .returned (.bool true) ∧ w = w') :
    Calls Try.prog 15 #[p] w fun e w' => e = .returned (.slice none 0 0) ∧ w = w' := by
  go_enter Try.func15, Try.ntmps15
  go_wp2_with ((with_reducible refine hN.mono ?_); rintro e w' ⟨rfl, rfl⟩)
  go_ret
  exact ⟨rfl, rfl⟩
theorem zQuota {w : World} {p : Value} (hN : Calls Try.prog 26 #[p] w fun e w' => e = .returned (.bool true) ∧ w = w') :
    Calls Try.prog 23 #[p] w fun e w' => e = .returned (.int .i64 0) ∧ w = w' := by
  go_enter Try.func23, Try.ntmps23
  go_wp2_with ((with_reducible refine hN.mono ?_); rintro e w' ⟨rfl, rfl⟩)
  go_ret
  exact ⟨rfl, rfl⟩

set_option maxRecDepth 100000 in
theorem awake_call (w : World) : Calls Try.prog 8 #[] w fun e w' => e = .returned (.bool true) ∧ Mod No w w' := by
  go_enter Try.func8, Try.ntmps8
  go_wp2_with fail
  refine ((Sep.nil w).sNew 192 (by omega) (by omega)).mono ?_
  rintro e w0 ⟨rfl, h⟩
  have h0 : Sep No w w0 [slabR (w.heap.size + 1) (Slb.empty 192)] := h
  clear h
  go_wp2_with fail
  refine (h0.sGrant 0 rfl 1 (f := 0) (er := 0) (S' := ((Slb.empty 192).grant 1).2.2) rfl).mono ?_
  rintro e w1 ⟨rfl, h⟩
  have h1 : Sep No w w1 [slabR (w.heap.size + 1) ((Slb.empty 192).grant 1).2.2] := h
  clear h h0
  go_wp2_with fail
  refine (h1.sGrant 0 rfl 2 (f := 1) (er := 0) (S' := (((Slb.empty 192).grant 1).2.2.grant 2).2.2) rfl).mono ?_
  rintro e w2 ⟨rfl, h⟩
  have h2 : Sep No w w2 [slabR (w.heap.size + 1) (((Slb.empty 192).grant 1).2.2.grant 2).2.2] := h
  clear h h1
  go_wp2_with fail
  refine (h2.sGrant 0 rfl 1 (f := 0) (er := 3) (S' := (((Slb.empty 192).grant 1).2.2.grant 2).2.2) rfl).mono ?_
  rintro e w3 ⟨rfl, h⟩
  have h3 : Sep No w w3 [slabR (w.heap.size + 1) (((Slb.empty 192).grant 1).2.2.grant 2).2.2] := h
  clear h h2
  obtain ⟨S, hS, hpg, hq⟩ : ∃ S : Slb, (((Slb.empty 192).grant 1).2.2.grant 2).2.2 = S ∧ S.pg = [0, 1, 2] ∧ S.quota = 192 := ⟨_, rfl, rfl, rfl⟩
  rw [hS] at h3
  clear hS
  have ha : ∀ (S : Slb) (a : Int), S.pg = [0, 1, 2] → 0 ≤ a → a < 192 → S.err a = 0 := fun S a hp h0 h1 => by
    refine (Slb.err_iff (by omega) (by omega)).2 (Slb.has_iff.2 ⟨by omega, ?_⟩)
    rw [hp]
    simp
    omega
  go_wp2_with fail
  refine (h3.sWrite 0 rfl 64 7 (by omega) (by omega) (er := 0) (S' := { S with wd := fun x => if x = 64 then 7 else S.wd x }) (by unfold Slb.write; rw [if_pos (ha S 64 hpg (by omega) (by omega))]; rfl)).mono ?_
  rintro e w4 ⟨rfl, h⟩
  have h4 : Sep No w w4 [slabR (w.heap.size + 1) { S with wd := fun x => if x = 64 then 7 else S.wd x }] := h
  clear h h3
  go_wp2_with fail
  have hmv : ∃ S', ({ S with wd := fun x => if x = 64 then 7 else S.wd x } : Slb).move 65 64 1 = (0, S') ∧ S'.pg = [0, 1, 2] ∧ S'.wd 65 = 7 := by
    unfold Slb.move
    rw [show Slb.moveBad 65 64 1 = false from by decide]
    have hall : ((List.range (1 : Int).toNat).all fun k => ({ S with wd := fun x => if x = 64 then 7 else S.wd x } : Slb).has (((64 : Int) + k) / 64) && ({ S with wd := fun x => if x = 64 then 7 else S.wd x } : Slb).has (((65 : Int) + k) / 64)) = true := by
      have : ∀ n : Int, n = 1 → ({ S with wd := fun x => if x = 64 then 7 else S.wd x } : Slb).has n = true := fun n hn => Slb.has_iff.2 ⟨by omega, by rw [hn]; show _ ∈ S.pg; rw [hpg]; decide⟩
      rw [List.all_eq_true]
      intro k hk
      have hk0 : k = 0 := by have := List.mem_range.1 hk; omega
      subst hk0
      rw [this _ (by decide), this _ (by decide)]
      rfl
    rw [if_pos hall]
    exact ⟨_, rfl, hpg, rfl⟩
  obtain ⟨S', hm, hpg', h65⟩ := hmv
  refine (h4.sMove 0 rfl 65 64 1 (by omega) (by omega) hm).mono ?_
  rintro e w5 ⟨rfl, h⟩
  have h5 : Sep No w w5 [slabR (w.heap.size + 1) S'] := h
  clear h h4
  go_wp2_with fail
  refine (h5.sRead 0 rfl 65 (x := 7) (er := 0) (by unfold Slb.read; rw [if_pos (ha S' 65 hpg' (by omega) (by omega))]; rw [show (65 : Int).toNat = 65 from rfl, h65])).mono ?_
  rintro e w6 ⟨rfl, rfl⟩
  go_wp2
  go_ret
  exact ⟨rfl, h5.mod⟩


set_option maxRecDepth 100000 in
theorem slabNone_walk (a0 a1 a2 a3 : Int) (w : World) (_w0 : (Lit.int .i64 a0).wf = true) (_w1 : (Lit.int .i64 a1).wf = true) (_w2 : (Lit.int .i64 a2).wf = true) (_w3 : (Lit.int .u64 a3).wf = true) :
    Calls Try.prog 7 #[.int .i64 a0, .int .i64 a1, .int .i64 a2, .int .u64 a3] w fun e w' => e = .returned (.bool true) ∧ Below w.heap.size w w' := by
  go_enter Try.func7, Try.ntmps7
  go_wp2_with fail
  go_loop [9, 11] (fun t i => ∃ j : Nat, i = .int .i64 j ∧ (j ≤ 1 ∧ t = .pointer none ∨ j = 2 ∧ t = .pointer (some ⟨w.heap.size, 0, none⟩))) (fun _ i => 2 - (RowKit.intOf i).toNat)
  case atStart => exact ⟨0, rfl, .inl ⟨by omega, rfl⟩⟩
  case round =>
    obtain ⟨j, rfl, hj⟩ := hrel
    have hN0 := none_nil (w.alloc (.cells #[.int .i64 0, .map none] 62))
    have hN1 := none_zero (w.alloc (.cells #[.int .i64 0, .map none] 62)) w.heap.size (by simp)
    rcases hj with ⟨hj, rfl⟩ | ⟨rfl, rfl⟩
    · have h01 : j = 0 ∨ j = 1 := by omega
      rcases h01 with rfl | rfl
      ·
        have c1 := zGrant a0 hN0
        have c2 := zRead a0 hN0
        have c3 := zRelease a0 a2 hN0
        have c4 := zWrite a0 a3 hN0
        have c5 := zMove a0 a1 a2 hN0
        have c6 := zClaim a0 hN0
        have c7 := zIs a0 hN0
        have c8 := zPages hN0
        have c9 := zQuota hN0
        clear hN1 hN0
        go_wp2_with (first | ((with_reducible refine c1.mono ?_); rintro e w' ⟨rfl, rfl⟩) | ((with_reducible refine c2.mono ?_); rintro e w' ⟨rfl, rfl⟩) | ((with_reducible refine c3.mono ?_); rintro e w' ⟨rfl, rfl⟩) | ((with_reducible refine c4.mono ?_); rintro e w' ⟨rfl, rfl⟩) | ((with_reducible refine c5.mono ?_); rintro e w' ⟨rfl, rfl⟩) | ((with_reducible refine c6.mono ?_); rintro e w' ⟨rfl, rfl⟩) | ((with_reducible refine c7.mono ?_); rintro e w' ⟨rfl, rfl⟩) | ((with_reducible refine c8.mono ?_); rintro e w' ⟨rfl, rfl⟩) | ((with_reducible refine c9.mono ?_); rintro e w' ⟨rfl, rfl⟩))
        go_round
        case rel => exact ⟨1, rfl, .inl ⟨by omega, rfl⟩⟩
        case measure => simp [RowKit.intOf]
      ·
        have c1 := zGrant a0 hN1
        have c2 := zRead a0 hN1
        have c3 := zRelease a0 a2 hN1
        have c4 := zWrite a0 a3 hN1
        have c5 := zMove a0 a1 a2 hN1
        have c6 := zClaim a0 hN1
        have c7 := zIs a0 hN1
        have c8 := zPages hN1
        have c9 := zQuota hN1
        clear hN1 hN0
        go_wp2_with (first | ((with_reducible refine c1.mono ?_); rintro e w' ⟨rfl, rfl⟩) | ((with_reducible refine c2.mono ?_); rintro e w' ⟨rfl, rfl⟩) | ((with_reducible refine c3.mono ?_); rintro e w' ⟨rfl, rfl⟩) | ((with_reducible refine c4.mono ?_); rintro e w' ⟨rfl, rfl⟩) | ((with_reducible refine c5.mono ?_); rintro e w' ⟨rfl, rfl⟩) | ((with_reducible refine c6.mono ?_); rintro e w' ⟨rfl, rfl⟩) | ((with_reducible refine c7.mono ?_); rintro e w' ⟨rfl, rfl⟩) | ((with_reducible refine c8.mono ?_); rintro e w' ⟨rfl, rfl⟩) | ((with_reducible refine c9.mono ?_); rintro e w' ⟨rfl, rfl⟩))
        go_round
        case rel => exact ⟨2, rfl, .inr ⟨rfl, rfl⟩⟩
        case measure => simp [RowKit.intOf]
    · clear hN1 hN0
      go_wp2_with fail
      refine (awake_call _).mono ?_
      rintro e w' ⟨rfl, hm⟩
      go_wp2
      go_ret
      exact ⟨rfl, ((Below.refl _ _).alloc (Nat.le_refl _) _).trans (hm.below _ (by simp) (fun _ _ x => x))⟩
end Go.Proofs.Ytnkdopaajpbjfaa
