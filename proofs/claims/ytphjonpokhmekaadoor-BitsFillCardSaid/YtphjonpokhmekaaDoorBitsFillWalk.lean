/- BitsFill, walked. Condition: the table of math/bits holds what its initialiser lays. -/
import Derived.Test.YtphjonpokhmekaaDoorBitsNearWalk
import Derived.Test.YtphjonpokhmekaaDoorBitsOtherWalk
namespace Go.Proofs.YtphjonpokhmekaaDoor
open Go Go.RowKit

/-- Between two rounds of filling: i of the first c are there, and all up to the last one that was put. -/
structure FillInv (c : Nat) (W i : Nat) (l : Int) : Prop where
  lt : W < 18446744073709551616
  cnt : Bt.cnt W c = i
  lo : -1 ≤ l
  all : ∀ j : Nat, (j : Int) ≤ l → W.testBit j = true

theorem cnt_set {W k : Nat} (hk : k < 64) (hb : W.testBit k = false) : ∀ c, c ≤ 64 → Bt.cnt (Bt.set W k) c = Bt.cnt W c + (if k < c then 1 else 0) := by
  intro c
  induction c with
  | zero => intro _; rfl
  | succ c ih =>
    intro hc
    have e1 : Bt.cnt (Bt.set W k) (c + 1) = Bt.cnt (Bt.set W k) c + (if (Bt.set W k).testBit c then 1 else 0) := rfl
    have e2 : Bt.cnt W (c + 1) = Bt.cnt W c + (if W.testBit c then 1 else 0) := rfl
    rw [e1, e2, ih (by omega), Bt.set_testBit k hk]
    by_cases h : c = k
    · subst h; simp [hb]
    · by_cases h2 : k < c
      · have h3 : k < c + 1 := by omega
        simp [h, h2, h3]; omega
      · have h3 : ¬ k < c + 1 := by omega
        simp [h, h2, h3]
theorem cnt_clear {W k : Nat} (hW : W < 18446744073709551616) (hk : k < 64) (hb : W.testBit k = true) : ∀ c, c ≤ 64 → Bt.cnt W c = Bt.cnt (Bt.clear W k) c + (if k < c then 1 else 0) := by
  intro c hc
  have h := cnt_set (W := Bt.clear W k) hk (by rw [Bt.clear_testBit k hk k hW]; simp) c hc
  have h2 : Bt.set (Bt.clear W k) k = W := by
    apply Nat.eq_of_testBit_eq
    intro i
    rw [Bt.set_testBit k hk, Bt.clear_testBit k hk i hW]
    by_cases e : i = k
    · subst e; simp [hb]
    · simp [e]
  rw [h2] at h; exact h

theorem FillInv.step {c W i : Nat} {l : Int} (hc : c ≤ 64) (I : FillInv c W i l) (hi : i < c) : ∃ k : Nat, Bt.free W c = k ∧ k < 64 ∧ l < k ∧ W.testBit k = false ∧ FillInv c (Bt.set W k) (i + 1) k := by
  have hcl := cl_nat c hc
  rcases Bt.free_spec I.lt (c : Int) with ⟨_, h⟩ | ⟨k, e, hk, hb, h⟩
  · rw [hcl] at h
    have := (cnt_all W c).2 h
    have := I.cnt
    omega
  · rw [hcl] at hk
    have hk64 : k < 64 := by omega
    refine ⟨k, e, hk64, ?_, hb, ⟨Bt.set_lt I.lt _, ?_, by omega, fun j hj => ?_⟩⟩
    · rcases Int.lt_or_le l k with h2 | h2
      · exact h2
      · rw [I.all k h2] at hb; cases hb
    · rw [cnt_set hk64 hb c hc, I.cnt, if_pos hk]
    · rw [Bt.set_testBit k hk64]
      by_cases hjk : j = k
      · simp [hjk]
      · rw [h j (by omega)]; rfl

/-- Between two rounds of emptying: the first i are there, and no other of the first c. -/
structure DrainInv (c : Nat) (W i : Nat) : Prop where
  lt : W < 18446744073709551616
  on : ∀ j, j < i → W.testBit j = true
  off : ∀ j, i ≤ j → j < c → W.testBit j = false

theorem DrainInv.last {c W i : Nat} (hc : c ≤ 64) (I : DrainInv c W i) (hi : i ≤ c) : Bt.last W c = (i : Int) - 1 := by
  have hcl := cl_nat c hc
  cases i with
  | zero => rw [last_none W c (fun j hj => I.off j (Nat.zero_le _) (by omega))]; rfl
  | succ i =>
    rw [last_uniq W c i (by omega) (I.on i (by omega)) (fun j h1 h2 => I.off j (by omega) (by omega))]; omega
theorem DrainInv.step {c W i : Nat} (hc : c ≤ 64) (I : DrainInv c W (i + 1)) (hi : i < c) : DrainInv c (Bt.clear W i) i := by
  have hi64 : i < 64 := by omega
  refine ⟨Bt.clear_lt I.lt _, fun j hj => ?_, fun j h1 h2 => ?_⟩
  · rw [Bt.clear_testBit i hi64 j I.lt, I.on j (by omega)]
    have : ¬ j = i := by omega
    simp [this]
  · rw [Bt.clear_testBit i hi64 j I.lt]
    by_cases e : j = i
    · simp [e]
    · rw [I.off j (by omega) h2]; rfl
theorem DrainInv.cnt {c W i : Nat} (I : DrainInv c W i) (hi : i ≤ c) : ∀ d, d ≤ c → Bt.cnt W d = min d i := by
  intro d
  induction d with
  | zero => intro _; simp [Bt.cnt]
  | succ d ih =>
    intro hd
    have e : Bt.cnt W (d + 1) = Bt.cnt W d + (if W.testBit d then 1 else 0) := rfl
    rw [e, ih (by omega)]
    rcases Nat.lt_or_ge d i with h | h
    · rw [I.on d h, if_pos rfl]; omega
    · rw [I.off d h (by omega), if_neg (by simp)]; omega

theorem full_cut {W c : Nat} (hc : c ≤ 64) (h : Bt.cnt W c = c) : Bt.cut W c = Bt.full c := by
  have hcl := cl_nat c hc
  have hall := (cnt_all W c).1 h
  apply Nat.eq_of_testBit_eq
  intro i
  rw [Bt.cut_testBit, hcl]
  unfold Bt.full
  rw [hcl, Nat.testBit_two_pow_sub_one]
  by_cases hi : i < c
  · rw [hall i hi]; simp
  · simp [hi]

theorem Bt.err_nat {k : Nat} (h : k < 64) : Bt.err (k : Int) = 0 := by unfold Bt.err; rw [okK_nat h]; rfl

def FillRel (w : World) (c : Nat) (x last i : Value) (wr : World) : Prop := ∃ (W j : Nat) (l : Int), x = .int .u64 W ∧ last = .int .i64 l ∧ i = .int .i64 j ∧ j ≤ c ∧ FillInv c W j l ∧ Mod (fun _ => False) w wr ∧ l ≤ 63
def DrainRel (w : World) (c : Nat) (x i : Value) (wr : World) : Prop := ∃ (W j : Nat), x = .int .u64 W ∧ i = .int .i64 j ∧ j ≤ c ∧ DrainInv c W j ∧ Mod (fun _ => False) w wr

set_option maxRecDepth 100000 in
set_option maxHeartbeats 2000000 in
theorem fill_in (N c : Nat) (hN : N < 18446744073709551616) (hc : c ≤ 64) (w : World) (hT : Tab64 w) :
    Calls Tryd.prog 7 #[.int .u64 N, .int .i64 c] w fun e w' => e = .returned (.bool true) ∧ Below w.heap.size w w' := by
  have HT := Lib.hid hT
  have h1 := count_call N hN c w
  rw [Bt.count_eq, cl_nat c hc] at h1
  have hI : FillInv c N (Bt.cnt N c) (-1) := ⟨hN, rfl, by omega, fun j hj => by omega⟩
  have hle := Bt.cnt_le N c
  have HI := Lib.hid hI
  clear hT hN hI
  generalize Bt.cnt N c = i0 at *
  have dd1 : decide ((c : Int) < 0) = false := ltF (by omega)
  have dd2 : decide (64 < (c : Int)) = false := ltF (by omega)
  go_enter Tryd.func7, Tryd.ntmps7
  go_wp2_with fail
  refine h1.mono ?_
  rintro e w1 ⟨rfl, m1⟩
  have M1 := Lib.hid m1
  clear h1 m1
  go_wp2_with fail
  go_loopw [0, 6, 7] (fun x last i wr => FillRel w c x last i wr) (fun _ _ i _ => c - (intOf i).toNat)
  case atStart => exact ⟨N, i0, -1, rfl, rfl, rfl, hle, HI.out, M1.out, by omega⟩
  case round =>
    obtain ⟨W, j, l, rfl, rfl, rfl, hj, hI, hm, hl⟩ := hrel
    clear HI M1 hle
    by_cases hlt : j < c
    · obtain ⟨k, hk, hk64, hlk, hb, hI'⟩ := hI.step hc hlt
      have k1 := free_call W hI.lt c wr (HT.out.mod hm)
      rw [hk] at k1
      have k2 := fun w => set_call W hI.lt k w
      rw [Bt.err_nat hk64] at k2
      have k3 := fun w => has_call W hI.lt k w
      rw [has_nat hk64, hb] at k3
      have k4 := fun w => count_call (Bt.set W k) hI'.lt c w
      rw [Bt.count_eq, cl_nat c hc, hI'.cnt] at k4
      have b1 : decide ((k : Int) ≤ l) = false := leF hlk
      have H := Lib.hid (And.intro k2 (And.intro k3 (And.intro k4 (And.intro hI' hm))))
      clear k2 k3 k4 hI' hm hb hk hI
      generalize Bt.set W k = V at *
      go_wp2_with fail
      refine k1.mono ?_
      rintro e w2 ⟨rfl, m2⟩
      have q2 := H.out.1 w2
      have q3 := H.out.2.1 w2
      have q4 := H.out.2.2.1 w2
      have M2 := Lib.hid m2
      clear k1 m2
      go_wp2_with fail
      refine q2.mono ?_
      rintro e w' ⟨rfl, rfl⟩
      go_wp2_with fail
      refine q3.mono ?_
      rintro e w' ⟨rfl, rfl⟩
      go_wp2_with fail
      refine q4.mono ?_
      rintro e w3 ⟨rfl, m3⟩
      have hfin := Lib.hid (show FillRel w c (.int .u64 V) (.int .i64 k) (.int .i64 (j + 1 : Nat)) w3 from ⟨V, j + 1, k, rfl, rfl, rfl, hlt, H.out.2.2.2.1, (H.out.2.2.2.2.trans' M2.out).trans' m3, by omega⟩)
      clear q2 q3 q4 m3 M2 H
      go_wp2
      go_roundw
      case rel => exact hfin.out
      case measure => simp [intOf]; omega
    · have hjc : j = c := by omega
      subst hjc
      have hall := (cnt_all W j).1 hI.cnt
      have hfree : Bt.free W j = -1 := by
        rcases Bt.free_spec hI.lt (j : Int) with ⟨e, _⟩ | ⟨k, _, hk, hb, _⟩
        · exact e
        · rw [cl_nat j hc] at hk; rw [hall k hk] at hb; cases hb
      have k1 := free_call W hI.lt j wr (HT.out.mod hm)
      rw [hfree] at k1
      have k2 := fun w => full_call (j : Int) w
      have hcw := cutword W hI.lt j
      rw [full_cut hc hI.cnt] at hcw
      have hD : DrainInv j W j := ⟨hI.lt, hall, fun q h1 h2 => by omega⟩
      have H := Lib.hid (And.intro k2 (And.intro hD hm))
      clear k2 hD hm hall hfree hI
      generalize Bt.full (j : Int) = Fu at *
      go_wp2_with fail
      refine k1.mono ?_
      rintro e w2 ⟨rfl, m2⟩
      have q2 := H.out.1 w2
      have M2 := Lib.hid m2
      clear k1 m2
      go_wp2_with fail
      refine q2.mono ?_
      rintro e w' ⟨rfl, rfl⟩
      go_wp2_with fail
      refine q2.mono ?_
      rintro e w' ⟨rfl, rfl⟩
      have hst := Lib.hid (show DrainRel w j (.int .u64 W) (.int .i64 j) w2 from ⟨W, j, rfl, rfl, Nat.le_refl _, H.out.2.1, H.out.2.2.trans' M2.out⟩)
      clear q2 M2 H
      go_wp2_with fail
      go_loopw [0, 11] (fun x i wr => DrainRel w j x i wr) (fun _ i _ => (intOf i).toNat)
      case atStart => exact hst.out
      case round =>
        obtain ⟨V, q, rfl, rfl, hq, hD, hm⟩ := hrel
        clear hst
        cases q with
        | zero =>
          have hlast := hD.last hc (Nat.zero_le _)
          have k1 := last_call V hD.lt j wr
          rw [hlast] at k1
          have HM := Lib.hid hm
          clear hlast hD hm
          go_wp2_with fail
          refine k1.mono ?_
          rintro e w3 ⟨rfl, m3⟩
          have m := HM.out.trans' m3
          have ha := awake_call w3 (HT.out.mod m)
          have MM := Lib.hid m
          clear k1 m3 HM m
          go_wp2_with fail
          refine ha.mono ?_
          rintro e w4 ⟨rfl, m4⟩
          go_wp2
          go_ret
          exact ⟨rfl, (MM.out.trans' m4).below _ (Nat.le_refl _) (fun _ _ x => x)⟩
        | succ q =>
          have hlast := hD.last hc hq
          have e1 : ((q + 1 : Nat) : Int) - 1 = (q : Int) := by omega
          rw [e1] at hlast
          have hq64 : q < 64 := by omega
          have k1 := last_call V hD.lt j wr
          rw [hlast] at k1
          have k2 := fun w => clear_call V hD.lt q w
          rw [Bt.err_nat hq64] at k2
          have hD' := hD.step hc (by omega)
          have k3 := fun w => has_call (Bt.clear V q) hD'.lt q w
          rw [has_clear hD.lt hq64] at k3
          have k4 := fun w => count_call (Bt.clear V q) hD'.lt j w
          rw [Bt.count_eq, cl_nat j hc, hD'.cnt (by omega) j (Nat.le_refl _), Nat.min_eq_right (by omega)] at k4
          have H := Lib.hid (And.intro k2 (And.intro k3 (And.intro k4 (And.intro hD' hm))))
          clear k2 k3 k4 hD' hm hlast hD e1
          generalize Bt.clear V q = V' at *
          go_wp2_with fail
          refine k1.mono ?_
          rintro e w3 ⟨rfl, m3⟩
          have q2 := H.out.1 w3
          have q3 := H.out.2.1 w3
          have q4 := H.out.2.2.1 w3
          have M3 := Lib.hid m3
          clear k1 m3
          go_wp2_with fail
          refine q2.mono ?_
          rintro e w' ⟨rfl, rfl⟩
          go_wp2_with fail
          refine q3.mono ?_
          rintro e w' ⟨rfl, rfl⟩
          go_wp2_with fail
          refine q4.mono ?_
          rintro e w4 ⟨rfl, m4⟩
          have hfin := Lib.hid (show DrainRel w j (.int .u64 V') (.int .i64 q) w4 from ⟨V', q, rfl, rfl, by omega, H.out.2.2.2.1, (H.out.2.2.2.2.trans' M3.out).trans' m4⟩)
          clear q2 q3 q4 m4 M3 H
          go_wp2
          go_roundw
          case rel => exact hfin.out
          case measure => simp [intOf]

theorem bitsFill_walk (a0 n : Int) (w : World) (w0 : (Lit.int .u64 a0).wf = true) (_w1 : (Lit.int .i64 n).wf = true) (hT : Tab64 w) :
    Calls Tryd.prog 7 #[.int .u64 a0, .int .i64 n] w fun e w' => e = .returned (.bool true) ∧ Below w.heap.size w w' := by
  have hb := bounds_u64 w0
  obtain ⟨N, rfl⟩ := Int.eq_ofNat_of_zero_le hb.1
  have hN : N < 18446744073709551616 := by omega
  have ha := fun (w1 : World) (m : Mod (fun _ => False) w w1) => (awake_call w1 (hT.mod m)).mono (R' := fun e w' => e = .returned (.bool true) ∧ Below w.heap.size w w') fun e w' ⟨he, hm⟩ => ⟨he, (m.trans' hm).below _ (Nat.le_refl _) (fun _ _ x => x)⟩
  rcases out_64 n with h | ⟨h, h'⟩ | ⟨h, h'⟩
  · have hc := ha w (Mod.refl _ _)
    clear ha hb hN hT
    go_enter Tryd.func7, Tryd.ntmps7
    go_wp2_with ((with_reducible refine hc.mono ?_); rintro e w' ⟨rfl, hb⟩)
    go_ret
    exact ⟨rfl, hb⟩
  · have hc := ha w (Mod.refl _ _)
    clear ha hb hN hT
    go_enter Tryd.func7, Tryd.ntmps7
    go_wp2_with ((with_reducible refine hc.mono ?_); rintro e w' ⟨rfl, hb⟩)
    go_ret
    exact ⟨rfl, hb⟩
  · obtain ⟨c, rfl⟩ := Int.eq_ofNat_of_zero_le h
    exact fill_in N c hN (by omega) w hT
end Go.Proofs.YtphjonpokhmekaaDoor
