/- HeapTold, walked. Condition: the table of math/bits holds what its initialiser lays. -/
import Derived.Test.YtnkdopaajpbjfaaDoorHeapLawSpec
set_option linter.unusedVariables false
set_option linter.unusedSimpArgs false
namespace Go.Proofs.YtnkdopaajpbjfaaDoor
open Go Go.RowKit


set_option maxRecDepth 100000 in
set_option maxHeartbeats 2000000 in
theorem told_ok (n at_ : Int) (w : World) (_w0 : (Lit.int .i64 n).wf = true) (_w1 : (Lit.int .i64 at_).wf = true) (hT : Tab64 w) (h1 : 1 ≤ n) (h2 : n ≤ 4000) :
    Calls Tryd.prog 6 #[.int .i64 n, .int .i64 at_] w fun e w' => e = .returned (.bool true) ∧ Below w.heap.size w w' := by
  have hb0 := bounds_i64 _w1
  have hp := Slb.pagesOf_range h1 h2
  obtain ⟨S1, H1, e1, R1, hbl⟩ := Slb.first_block (q := 262144) (by omega) (by omega) h1 h2 (by omega)
  have hrr := Slb.roomOf_range h1 h2
  have HT := Lib.hid hT
  have HR := Lib.hid R1
  obtain ⟨r, hr⟩ : ∃ x, Slb.roomOf n = x := ⟨_, rfl⟩
  rw [hr] at hbl hrr
  have hmem : (2, r) ∈ blks H1 := by rw [hbl]; simp
  have hroom : S1.room 2 = (((r : Nat) : Int), 0) := R1.room_blk hmem
  have hslide := R1.slide_two hmem
  obtain ⟨S2, H2, e2, F2, _⟩ := R1.hfree hmem
  have hf2 : S1.hfree 2 = (0, S2) := e2
  have hno : at_ ≠ 2 → S1.find at_ = none := fun hne => R1.find_no (fun b hb => by
    rw [hbl] at hb
    rw [List.mem_singleton.1 hb]
    exact fun e => hne e.symm)
  -- what a size is
  have hof := fun W => of_call n W
  have hsz := fun W => size_call (cof n).1 W
  obtain ⟨c, hc⟩ : ∃ x, (cof n).1 = x := ⟨_, rfl⟩
  obtain ⟨sm, hsm⟩ : ∃ x, (cof n).2.1 = x := ⟨_, rfl⟩
  have hce : (cof n).2.2 = 0 := by
    by_cases h : n ≤ 28
    · rw [cof_small h1 h]
    · rw [cof_large (by omega) h2]
  have hsr : (sm = true → (csize c).1 = (r : Nat)) ∧ (sm = false → (r : Int) = n) := by
    by_cases h : n ≤ 28
    · rw [cof_small h1 h] at hc hsm
      dsimp only at hc hsm
      have hcl := clsOf_lt n
      refine ⟨fun _ => ?_, fun e => (by rw [← hsm] at e; cases e)⟩
      rw [← hc, csize_in (by omega) (by omega), Int.toNat_natCast, ← hr]
      unfold Slb.roomOf
      rw [if_pos h]
    · rw [cof_large (by omega) h2] at hsm
      dsimp only at hsm
      refine ⟨fun e => (by rw [← hsm] at e; cases e), fun _ => ?_⟩
      rw [← hr]
      unfold Slb.roomOf
      rw [if_neg h]
      omega
  obtain ⟨z1, hz1⟩ : ∃ x, (csize c).1 = x := ⟨_, rfl⟩
  obtain ⟨z2, hz2⟩ : ∃ x, (csize c).2 = x := ⟨_, rfl⟩
  rw [hz1] at hsr
  have HOF : Hid (∀ W, Calls Tryd.prog 10 #[.int .i64 n] W fun e w' => e = .returned (.tuple #[.int .i64 c, .bool sm, .int .i64 0]) ∧ Mod No W w') := fun W => by have := hof W; rw [hc, hsm, hce] at this; exact this
  have HSZ : Hid (∀ W, Calls Tryd.prog 22 #[.int .i64 c] W fun e w' => e = .returned (.tuple #[.int .i64 z1, .int .i64 z2]) ∧ Mod No W w') := fun W => by have := hsz W; rw [hc, hz1, hz2] at this; exact this
  clear hof hsz hc hsm hce hz1 hz2 hbl hmem hp hr R1 F2 e2
  have HE := Lib.hid (And.intro e1 (And.intro hroom (And.intro hslide (And.intro hf2 hno))))
  clear e1 hroom hslide hf2 hno hT
  go_enter Tryd.func6, Tryd.ntmps6
  go_wp2_with fail
  refine (made_call (Sep.nil w) 262144 (by omega) (by omega)).mono ?_
  rintro e w1 ⟨s, b, rfl, g1⟩
  have g1 : Sep No w w1 [slabR s (Slb.empty 262144), hpAt b s] := g1
  have hal := g1.hAlloc 1 0 (by omega) rfl rfl (HT.out.mod g1.mod) n HE.out.1
  clear g1
  go_wp2_with fail
  refine hal.mono ?_
  rintro e w2 ⟨rfl, g2⟩
  have G2 : Hid (Sep No w w2 [slabR s S1, hpAt b s]) := g2
  clear hal g2
  go_wp2_with fail
  refine (HOF.out _).mono ?_
  rintro e w3 ⟨rfl, hm3⟩
  have G3 := Lib.hid (G2.out.more hm3)
  have hrm := hroom_call G3.out 1 0 rfl rfl 2 (by omega) (by omega)
  rw [HE.out.2.1] at hrm
  clear hm3 G2
  go_wp2_with fail
  refine hrm.mono ?_
  rintro e w4 ⟨rfl, hm4⟩
  have G4 := Lib.hid (G3.out.more hm4)
  clear hrm hm4 G3
  go_wp2_with fail
  refine (HSZ.out _).mono ?_
  rintro e w5 ⟨rfl, hm5⟩
  have G5 := Lib.hid (G4.out.more hm5)
  clear hm5 G4
  have hrm := hroom_call G5.out 1 0 rfl rfl at_ (by omega) (by omega)
  obtain ⟨r1, hr1⟩ : ∃ x, (S1.room at_).1 = x := ⟨_, rfl⟩
  have HC : Hid (∃ er : Int, ∃ x : Int, ∃ Sf : Slb, (S1.room at_).2 = er ∧ S1.hslide at_ = (x, er, S1) ∧ S1.hfree at_ = (er, Sf) ∧ (at_ = 2 → er = 0) ∧ (at_ ≠ 2 → er = 5)) := by
    by_cases h : at_ = 2
    · subst h
      exact ⟨0, 2, S2, by rw [HE.out.2.1], HE.out.2.2.1, HE.out.2.2.2.1, fun _ => rfl, fun h => absurd rfl h⟩
    · have hn := HE.out.2.2.2.2 h
      exact ⟨5, 0, S1, by rw [Slb.room_none hn], Slb.hslide_none' hn, Slb.hfree_none hn, fun h' => absurd h' h, fun _ => rfl⟩
  obtain ⟨er, x, Sf, q1, q2, q3, q4, q5⟩ := HC.out
  rw [hr1, q1] at hrm
  have HQ := Lib.hid (And.intro q2 q3)
  clear q1 q2 q3 hr1 HC
  have key : ∀ er' : Int, er' = er → ((at_ == 2) = true ∧ er' = 0 ∨ (at_ == 2) = false ∧ er' = 5) := fun er' e => by
    by_cases h : at_ = 2
    · exact .inl ⟨beqT h, by rw [e, q4 h]⟩
    · exact .inr ⟨beqF h, by rw [e, q5 h]⟩
  have key := key er rfl
  clear q4 q5
  rcases key with ⟨d, rfl⟩ | ⟨d, rfl⟩
  · cases sm with
    | true =>
      have hz := hsr.1 rfl
      subst hz
      clear hsr
      go_wp2_with fail
      refine hrm.mono ?_
      rintro e w6 ⟨rfl, hm6⟩
      have G6 := Lib.hid (G5.out.more hm6)
      have hsl := Sep.hSlideR G6.out 1 0 (by omega) rfl rfl (HT.out.mod G6.out.mod) HR.out at_ (by omega) (by omega) HQ.out.1
      clear hrm hm6 G5
      go_wp2_with fail
      refine hsl.mono ?_
      rintro e w7 ⟨rfl, g7⟩
      have G7 : Hid (Sep No w w7 [slabR s S1, hpAt b s]) := g7
      have hfr := hfree_call G7.out 1 0 (by omega) rfl rfl at_ (by omega) (by omega) HQ.out.2
      clear hsl g7 G6
      go_wp2_with fail
      refine hfr.mono ?_
      rintro e w8 ⟨rfl, g8⟩
      have HM := Lib.hid g8.mod
      clear hfr g8 G7
      have ha := awake_call w8 (HT.out.mod HM.out)
      go_wp2_with fail
      refine ha.mono ?_
      rintro e w9 ⟨rfl, hm9⟩
      have H9 := Lib.hid (HM.out.trans' hm9)
      clear ha hm9
      go_wp2
      go_ret
      exact ⟨rfl, H9.out.below _ (Nat.le_refl _) (fun _ _ x => x)⟩
    | false =>
      have hz := hsr.2 rfl
      subst hz
      clear hsr
      go_wp2_with fail
      refine hrm.mono ?_
      rintro e w6 ⟨rfl, hm6⟩
      have G6 := Lib.hid (G5.out.more hm6)
      have hsl := Sep.hSlideR G6.out 1 0 (by omega) rfl rfl (HT.out.mod G6.out.mod) HR.out at_ (by omega) (by omega) HQ.out.1
      clear hrm hm6 G5
      go_wp2_with fail
      refine hsl.mono ?_
      rintro e w7 ⟨rfl, g7⟩
      have G7 : Hid (Sep No w w7 [slabR s S1, hpAt b s]) := g7
      have hfr := hfree_call G7.out 1 0 (by omega) rfl rfl at_ (by omega) (by omega) HQ.out.2
      clear hsl g7 G6
      go_wp2_with fail
      refine hfr.mono ?_
      rintro e w8 ⟨rfl, g8⟩
      have HM := Lib.hid g8.mod
      clear hfr g8 G7
      have ha := awake_call w8 (HT.out.mod HM.out)
      go_wp2_with fail
      refine ha.mono ?_
      rintro e w9 ⟨rfl, hm9⟩
      have H9 := Lib.hid (HM.out.trans' hm9)
      clear ha hm9
      go_wp2
      go_ret
      exact ⟨rfl, H9.out.below _ (Nat.le_refl _) (fun _ _ x => x)⟩
  · cases sm with
    | true =>
      have hz := hsr.1 rfl
      subst hz
      clear hsr
      go_wp2_with fail
      refine hrm.mono ?_
      rintro e w6 ⟨rfl, hm6⟩
      have G6 := Lib.hid (G5.out.more hm6)
      have hsl := Sep.hSlideR G6.out 1 0 (by omega) rfl rfl (HT.out.mod G6.out.mod) HR.out at_ (by omega) (by omega) HQ.out.1
      clear hrm hm6 G5
      go_wp2_with fail
      refine hsl.mono ?_
      rintro e w7 ⟨rfl, g7⟩
      have G7 : Hid (Sep No w w7 [slabR s S1, hpAt b s]) := g7
      have hfr := hfree_call G7.out 1 0 (by omega) rfl rfl at_ (by omega) (by omega) HQ.out.2
      clear hsl g7 G6
      go_wp2_with fail
      refine hfr.mono ?_
      rintro e w8 ⟨rfl, g8⟩
      have HM := Lib.hid g8.mod
      clear hfr g8 G7
      have ha := awake_call w8 (HT.out.mod HM.out)
      go_wp2_with fail
      refine ha.mono ?_
      rintro e w9 ⟨rfl, hm9⟩
      have H9 := Lib.hid (HM.out.trans' hm9)
      clear ha hm9
      go_wp2
      go_ret
      exact ⟨rfl, H9.out.below _ (Nat.le_refl _) (fun _ _ x => x)⟩
    | false =>
      have hz := hsr.2 rfl
      subst hz
      clear hsr
      go_wp2_with fail
      refine hrm.mono ?_
      rintro e w6 ⟨rfl, hm6⟩
      have G6 := Lib.hid (G5.out.more hm6)
      have hsl := Sep.hSlideR G6.out 1 0 (by omega) rfl rfl (HT.out.mod G6.out.mod) HR.out at_ (by omega) (by omega) HQ.out.1
      clear hrm hm6 G5
      go_wp2_with fail
      refine hsl.mono ?_
      rintro e w7 ⟨rfl, g7⟩
      have G7 : Hid (Sep No w w7 [slabR s S1, hpAt b s]) := g7
      have hfr := hfree_call G7.out 1 0 (by omega) rfl rfl at_ (by omega) (by omega) HQ.out.2
      clear hsl g7 G6
      go_wp2_with fail
      refine hfr.mono ?_
      rintro e w8 ⟨rfl, g8⟩
      have HM := Lib.hid g8.mod
      clear hfr g8 G7
      have ha := awake_call w8 (HT.out.mod HM.out)
      go_wp2_with fail
      refine ha.mono ?_
      rintro e w9 ⟨rfl, hm9⟩
      have H9 := Lib.hid (HM.out.trans' hm9)
      clear ha hm9
      go_wp2
      go_ret
      exact ⟨rfl, H9.out.below _ (Nat.le_refl _) (fun _ _ x => x)⟩

set_option maxRecDepth 100000 in
set_option maxHeartbeats 2000000 in
theorem told_bad (n at_ : Int) (w : World) (hT : Tab64 w) (hb : n < 1 ∨ 4000 < n) :
    Calls Tryd.prog 6 #[.int .i64 n, .int .i64 at_] w fun e w' => e = .returned (.bool true) ∧ Below w.heap.size w w' := by
  have HT := Lib.hid hT
  have HB := Lib.hid hb
  have hof := fun W => of_call n W
  have HOF : Hid (∀ W, Calls Tryd.prog 10 #[.int .i64 n] W fun e w' => e = .returned (.tuple #[.int .i64 0, .bool false, .int .i64 2]) ∧ Mod No W w') := fun W => by have := hof W; rw [cof_bad HB.out] at this; exact this
  clear hof hT hb
  go_enter Tryd.func6, Tryd.ntmps6
  go_wp2_with fail
  refine (made_call (Sep.nil w) 262144 (by omega) (by omega)).mono ?_
  rintro e w1 ⟨s, b, rfl, g1⟩
  have g1 : Sep No w w1 [slabR s (Slb.empty 262144), hpAt b s] := g1
  have hal := g1.hAlloc 1 0 (by omega) rfl rfl (HT.out.mod g1.mod) n (Slb.halloc_bad' HB.out)
  clear g1
  go_wp2_with fail
  refine hal.mono ?_
  rintro e w2 ⟨rfl, g2⟩
  have G2 : Hid (Sep No w w2 [slabR s (Slb.empty 262144), hpAt b s]) := g2
  clear hal g2
  go_wp2_with fail
  refine (HOF.out _).mono ?_
  rintro e w3 ⟨rfl, hm3⟩
  have G3 := Lib.hid (G2.out.more hm3)
  have hlv := Sep.hLive G3.out 1 0 rfl rfl
  have hl0 : (Slb.empty 262144).live = [] := by rw [(Slb.Rep.empty (by omega) (by omega)).live]; rfl
  rw [hl0] at hlv
  clear hm3 G2
  go_wp2_with fail
  refine hlv.mono ?_
  rintro e w4 ⟨v, rfl, g4⟩
  obtain ⟨sa, cap, rfl⟩ := g4.form 2 rfl
  have HM := Lib.hid g4.mod
  clear hlv g4 G3
  have ha := awake_call w4 (HT.out.mod HM.out)
  go_wp2_with fail
  refine ha.mono ?_
  rintro e w9 ⟨rfl, hm9⟩
  have H9 := Lib.hid (HM.out.trans' hm9)
  clear ha hm9
  go_wp2
  go_ret
  exact ⟨rfl, H9.out.below _ (Nat.le_refl _) (fun _ _ x => x)⟩

theorem heapTold_walk (n at_ : Int) (w : World) (w0 : (Lit.int .i64 n).wf = true) (w1 : (Lit.int .i64 at_).wf = true) (hT : Tab64 w) :
    Calls Tryd.prog 6 #[.int .i64 n, .int .i64 at_] w fun e w' => e = .returned (.bool true) ∧ Below w.heap.size w w' := by
  by_cases hb : n < 1 ∨ 4000 < n
  · exact told_bad n at_ w hT hb
  · exact told_ok n at_ w w0 w1 hT (by omega) (by omega)
end Go.Proofs.YtnkdopaajpbjfaaDoor
