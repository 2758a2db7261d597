/- CompactNoMore, walked. Condition: the table of math/bits holds what its initialiser lays. -/
import Derived.Test.YtmdnofojecncgaaGreatDoorNoMoreSpec
import Derived.Test.YtmdnofojecncgaaGreatDoorFill
import Derived.Test.YtmdnofojecncgaaGreatDoorCompactC
set_option linter.unusedVariables false
set_option linter.unusedSimpArgs false
set_option maxRecDepth 100000
namespace Go.Proofs.YtmdnofojecncgaaGreatDoor
open Go Go.RowKit

abbrev NmPs (b cb C1 : Nat) (S : Slb) (T : HTbl) : List Res := [stR b 1000 4294967295 S T, cpR cb b, cellsAt C1 (rsV 262144 1000 4294967295) 35]
/-- What stands ahead of a round of the first loop. -/
def NmRel (w : World) (b cb C1 n k : Nat) (wr : World) : Prop := ∃ s : FSt, NoMore n k s ∧ Sep No w wr (NmPs b cb C1 s.S s.T)
def NmRel2 (w : World) (b cb C1 : Nat) (wr : World) : Prop := ∃ (S : Slb) (T : HTbl) (H : List Ent) (R : List Rc), StInv S T H R ∧ Sep No w wr (NmPs b cb C1 S T)
theorem NoMore.pages {n k : Nat} {s : FSt} (K : NoMore n k s) : s.S.pg.length ≤ 4096 := by
  have := K.inv.rep.ok.fit
  have := K.inv.rep.ok.q1
  omega
theorem StInv.pages4 {S : Slb} {T : HTbl} {H : List Ent} {R : List Rc} (I : StInv S T H R) : S.pg.length ≤ 4096 := by
  have := I.rep.ok.fit
  have := I.rep.ok.q1
  omega
theorem StInv.fresh {S : Slb} {T : HTbl} {H : List Ent} {R : List Rc} (I : StInv S T H R) : (⟨S, T, H, R, R.length⟩ : FSt).Inv ∧ (⟨S, T, H, R, R.length⟩ : FSt).hs = [] := by
  refine ⟨⟨I, Nat.le_refl _⟩, ?_⟩
  unfold FSt.hs
  dsimp only
  rw [List.drop_eq_nil_iff, List.length_map]
  exact Nat.le_refl _



set_option maxRecDepth 100000 in
set_option maxHeartbeats 8000000 in
theorem nomore_in (n many : Nat) {sa : Option Addr} {len cap : Nat} {z : List (List Int)} (w : World) (hn : n ≤ 3998) (hm : many ≤ 60) (R0 : Recs w sa len [some .i64, some .i64, some .i64, some .u64] z) (hlen : len ≤ 60) (hT : Tab64 w) :
    Calls Tryz.prog 5 #[.int .i64 (n : Nat), .int .i64 (many : Nat), .slice sa len cap] w fun e w' => e = .returned (.bool true) ∧ Below w.heap.size w w' := by
  have d1 : decide ((n : Int) < 0) = false := ltF (by omega)
  have d2 : decide ((3998 : Int) < (n : Int)) = false := ltF (by omega)
  have d3 : decide ((many : Int) < 0) = false := ltF (by omega)
  have d4 : decide ((60 : Int) < (many : Int)) = false := ltF (by omega)
  have d5 : decide ((60 : Int) < (len : Int)) = false := ltF (by omega)
  have HR := Lib.hid (And.intro R0 hlen)
  have HT := Lib.hid hT
  have HN := Lib.hid hn
  have hc1 := made07_call 262144 1000 (by omega) (by omega) (by omega) (by omega) w
  clear R0 hT
  go_enter Tryz.func5, Tryz.ntmps5
  go_wp2_with fail
  refine hc1.mono ?_
  rintro e w1 ⟨b, cb, rfl, h1'⟩
  have h2 := h1'.pushCells (rsV 262144 1000 4294967295) 35
  obtain ⟨C1, hC1⟩ : ∃ C, w1.heap.size = C := ⟨_, rfl⟩
  obtain ⟨V1, hV1⟩ : ∃ W, w1.alloc (.cells (rsV 262144 1000 4294967295) 35) = W := ⟨_, rfl⟩
  rw [hC1, hV1] at h2
  have h2 : Sep No w V1 (NmPs b cb C1 (Slb.empty 262144) ⟨1000, 4294967295, []⟩) := h2
  obtain ⟨j4, g4⟩ := h2.cell 2 rfl 4 (v := .slice none 0 0) rfl
  obtain ⟨j5, g5⟩ := h2.cell 2 rfl 5 (v := .slice none 0 0) rfl
  have h3 := (h2.set 2 rfl 4 (.slice none 0 0)).set 2 rfl 5 (.slice none 0 0)
  have h3 : Sep No w ((V1.setCell ⟨C1, 4, none⟩ (.slice none 0 0)).setCell ⟨C1, 5, none⟩ (.slice none 0 0)) (NmPs b cb C1 (Slb.empty 262144) ⟨1000, 4294967295, []⟩) := h3
  generalize hW3 : ((V1.setCell ⟨C1, 4, none⟩ (.slice none 0 0)).setCell ⟨C1, 5, none⟩ (.slice none 0 0)) = W3 at h3
  have H3 : Hid (NmRel w b cb C1 n 0 W3) := Lib.hid ⟨_, NoMore.start n, h3⟩
  clear h1' h2 h3 hc1
  go_wp2_with fail
  try rw [hW3]
  clear j4 g4 j5 g5 hC1 hV1 hW3
  go_loopw [11] (fun iv wr => ∃ k : Nat, iv = .int .i64 k ∧ k ≤ many ∧ NmRel w b cb C1 n k wr) (fun iv _ => many - (RowKit.intOf iv).toNat)
  case atStart => exact ⟨0, rfl, Nat.zero_le _, H3.out⟩
  case round =>
    obtain ⟨k, rfl, hk, s, K, hs⟩ := hrel
    clear H3
    by_cases hlt : k < many
    · have dI : decide ((k : Int) < (many : Int)) = true := ltT (by omega)
      have hw1 := stwords_call hs 0 rfl
      obtain ⟨p, hp⟩ : ∃ p, s.S.pg.length = p := ⟨_, rfl⟩
      have hp4 : p ≤ 4096 := by rw [← hp]; exact K.pages
      have HP := Lib.hid hp
      rw [hp] at hw1
      clear hs hp
      go_wp2_with fail
      refine hw1.mono ?_
      rintro e w2 ⟨rfl, hs⟩
      have hs : Sep No w w2 (NmPs b cb C1 s.S s.T) := hs
      clear hw1
      by_cases hfew : 64 * (p : Int) < 100000
      · have dF : decide (64 * (p : Int) < 100000) = true := ltT hfew
        obtain ⟨hd, er, S', T', H', R', M⟩ := K.inv.made (n : Int)
        have hmk := stmake_call hs 0 rfl (HT.out.mod hs.mod) M
        have HM := Lib.hid (K.ok HN.out (by omega) M)
        have HK1 : Hid (k + 1 ≤ many ∧ many - (k + 1) < many - k) := by exact Lib.hid ⟨by omega, by omega⟩
        clear hs M hfew K HP
        go_wp2_with fail
        refine hmk.mono ?_
        rintro e w3 ⟨rfl, h3⟩
        have HS : Hid (NmRel w b cb C1 n (k + 1) w3) := Lib.hid ⟨_, HM.out, h3⟩
        clear hmk h3
        go_wp2_with fail
        go_roundw
        case rel => exact ⟨k + 1, by go_num, HK1.out.1, HS.out⟩
        case measure => have := HK1.out.2; simp [RowKit.intOf]; omega
      · have dF : decide (64 * (p : Int) < 100000) = false := ltF (by omega)
        clear hlt hfew hk
        have hst := cstep_call hs 0 1 rfl rfl K.inv (HT.out.mod hs.mod)
        have HK := Lib.hid K
        clear hs K
        go_wp2_with fail
        refine hst.mono ?_
        rintro e w4 ⟨is, S1, T1, H1, R1, ⟨rfl, D⟩, h4⟩
        obtain ⟨rfl, rfl, rfl, rfl, rfl⟩ := HK.out.rest D
        have h4 : Sep No w w4 (NmPs b cb C1 s.S s.T) := h4
        have hf := fill_call (s0 := ⟨s.S, s.T, s.H, s.R, s.R.length⟩) (cap := cap) h4 0 rfl HK.out.inv.fresh.1 HK.out.inv.fresh.2 HT.out HR.out.1 HR.out.2
        have HI := Lib.hid (frun_inv (k := len) HK.out.inv.fresh.1 HR.out.1.fwords (by rw [HR.out.1.count]; exact Nat.le_refl _)).1
        clear hst h4 D
        go_wp2_with fail
        refine hf.mono ?_
        rintro e w5 ⟨sl, cl, rfl, h5⟩
        unfold FRel at h5
        have H5 : Hid (NmRel2 w b cb C1 w5) := Lib.hid ⟨_, _, _, _, HI.out, Sep.left (Ps := [_, _, _]) h5⟩
        clear hf h5 HK HI
        go_wp2_with fail
        go_loopw [14] (fun iv wr => ∃ k : Nat, iv = .int .i64 k ∧ k ≤ 200 ∧ NmRel2 w b cb C1 wr) (fun iv _ => 200 - (RowKit.intOf iv).toNat)
        case atStart => exact ⟨0, rfl, Nat.zero_le _, H5.out⟩
        case round =>
          obtain ⟨k, rfl, hk, hrl⟩ := hrel
          clear H5
          by_cases hlt : k < 200
          · have dI : decide ((k : Int) < 200) = true := ltT (by omega)
            obtain ⟨S6, T6, H6, R6, I6, h6⟩ := hrl
            have hw1 := stwords_call h6 0 rfl
            obtain ⟨p, hp⟩ : ∃ p, S6.pg.length = p := ⟨_, rfl⟩
            have hp4 : p ≤ 4096 := by rw [← hp]; exact I6.pages4
            have HP := Lib.hid hp
            rw [hp] at hw1
            clear h6 hp
            go_wp2_with fail
            refine hw1.mono ?_
            rintro e w7 ⟨rfl, h7⟩
            have h7 : Sep No w w7 (NmPs b cb C1 S6 T6) := h7
            have hst2 := cstep_call h7 0 1 rfl rfl I6 (HT.out.mod h7.mod)
            have HI6 := Lib.hid I6
            clear hw1 h7 I6
            go_wp2_with fail
            refine hst2.mono ?_
            rintro e w8 ⟨is, S8, T8, H8, R8, ⟨rfl, D8⟩, h8⟩
            have h8 : Sep No w w8 (NmPs b cb C1 S8 T8) := h8
            have hle := D8.pg_le HI6.out
            rw [HP.out] at hle
            have hw2 := stwords_call h8 0 rfl
            obtain ⟨p2, hp2⟩ : ∃ p, S8.pg.length = p := ⟨_, rfl⟩
            rw [hp2] at hle hw2
            have dp : decide (64 * (p : Int) < 64 * (p2 : Int)) = false := ltF (by omega)
            have dp2 : decide (p < p2) = false := decide_eq_false (by omega)
            have HI8 := Lib.hid D8.inv
            have HP2 := Lib.hid hp2
            clear hst2 h8 D8 hp2
            go_wp2_with fail
            refine hw2.mono ?_
            rintro e w9 ⟨rfl, h9⟩
            have HE : Hid (NmRel2 w b cb C1 w9) := Lib.hid ⟨_, _, _, _, HI8.out, h9⟩
            have HK1 : Hid (k + 1 ≤ 200 ∧ 200 - (k + 1) < 200 - k) := by exact Lib.hid ⟨by omega, by omega⟩
            clear hw2 h9 hlt HI8 HI6 HP2 HP
            cases is with
            | true =>
              go_wp2_with fail
              go_roundw
              case rel => exact ⟨k + 1, by go_num, HK1.out.1, HE.out⟩
              case measure => have := HK1.out.2; simp [RowKit.intOf]; omega
            | false =>
              go_wp2_with fail
              obtain ⟨S3, T3, H3, R3, I3, h10⟩ := HE.out
              have hau := staudit_call h10 0 rfl I3
              clear h10 I3
              go_wp2_with fail
              refine hau.mono ?_
              rintro e w11 ⟨rfl, h11⟩
              have HM := Lib.hid h11.mod
              clear hau h11
              go_wp2_with fail
              have ha := awake07_call w11 (HT.out.mod HM.out)
              go_wp2_with fail
              refine ha.mono ?_
              rintro e w9 ⟨rfl, hm9⟩
              have H9 := Lib.hid (HM.out.trans' hm9)
              clear ha hm9
              go_wp2
              go_ret
              exact ⟨rfl, H9.out.below _ (Nat.le_refl _) (fun _ _ x => x)⟩
          · obtain rfl : k = 200 := by omega
            have HE := Lib.hid hrl
            clear hlt hrl
            go_wp2_with fail
            obtain ⟨S3, T3, H3, R3, I3, h10⟩ := HE.out
            have hau := staudit_call h10 0 rfl I3
            clear h10 I3
            go_wp2_with fail
            refine hau.mono ?_
            rintro e w11 ⟨rfl, h11⟩
            have HM := Lib.hid h11.mod
            clear hau h11
            go_wp2_with fail
            have ha := awake07_call w11 (HT.out.mod HM.out)
            go_wp2_with fail
            refine ha.mono ?_
            rintro e w9 ⟨rfl, hm9⟩
            have H9 := Lib.hid (HM.out.trans' hm9)
            clear ha hm9
            go_wp2
            go_ret
            exact ⟨rfl, H9.out.below _ (Nat.le_refl _) (fun _ _ x => x)⟩
    · have dI : decide ((k : Int) < (many : Int)) = false := ltF (by omega)
      have dI2 : decide (k < many) = false := decide_eq_false hlt
      clear hlt hk
      have hst := cstep_call hs 0 1 rfl rfl K.inv (HT.out.mod hs.mod)
      have HK := Lib.hid K
      clear hs K
      go_wp2_with fail
      refine hst.mono ?_
      rintro e w4 ⟨is, S1, T1, H1, R1, ⟨rfl, D⟩, h4⟩
      obtain ⟨rfl, rfl, rfl, rfl, rfl⟩ := HK.out.rest D
      have h4 : Sep No w w4 (NmPs b cb C1 s.S s.T) := h4
      have hf := fill_call (s0 := ⟨s.S, s.T, s.H, s.R, s.R.length⟩) (cap := cap) h4 0 rfl HK.out.inv.fresh.1 HK.out.inv.fresh.2 HT.out HR.out.1 HR.out.2
      have HI := Lib.hid (frun_inv (k := len) HK.out.inv.fresh.1 HR.out.1.fwords (by rw [HR.out.1.count]; exact Nat.le_refl _)).1
      clear hst h4 D
      go_wp2_with fail
      refine hf.mono ?_
      rintro e w5 ⟨sl, cl, rfl, h5⟩
      unfold FRel at h5
      have H5 : Hid (NmRel2 w b cb C1 w5) := Lib.hid ⟨_, _, _, _, HI.out, Sep.left (Ps := [_, _, _]) h5⟩
      clear hf h5 HK HI
      go_wp2_with fail
      go_loopw [14] (fun iv wr => ∃ k : Nat, iv = .int .i64 k ∧ k ≤ 200 ∧ NmRel2 w b cb C1 wr) (fun iv _ => 200 - (RowKit.intOf iv).toNat)
      case atStart => exact ⟨0, rfl, Nat.zero_le _, H5.out⟩
      case round =>
        obtain ⟨k, rfl, hk, hrl⟩ := hrel
        clear H5
        by_cases hlt : k < 200
        · have dI : decide ((k : Int) < 200) = true := ltT (by omega)
          obtain ⟨S6, T6, H6, R6, I6, h6⟩ := hrl
          have hw1 := stwords_call h6 0 rfl
          obtain ⟨p, hp⟩ : ∃ p, S6.pg.length = p := ⟨_, rfl⟩
          have hp4 : p ≤ 4096 := by rw [← hp]; exact I6.pages4
          have HP := Lib.hid hp
          rw [hp] at hw1
          clear h6 hp
          go_wp2_with fail
          refine hw1.mono ?_
          rintro e w7 ⟨rfl, h7⟩
          have h7 : Sep No w w7 (NmPs b cb C1 S6 T6) := h7
          have hst2 := cstep_call h7 0 1 rfl rfl I6 (HT.out.mod h7.mod)
          have HI6 := Lib.hid I6
          clear hw1 h7 I6
          go_wp2_with fail
          refine hst2.mono ?_
          rintro e w8 ⟨is, S8, T8, H8, R8, ⟨rfl, D8⟩, h8⟩
          have h8 : Sep No w w8 (NmPs b cb C1 S8 T8) := h8
          have hle := D8.pg_le HI6.out
          rw [HP.out] at hle
          have hw2 := stwords_call h8 0 rfl
          obtain ⟨p2, hp2⟩ : ∃ p, S8.pg.length = p := ⟨_, rfl⟩
          rw [hp2] at hle hw2
          have dp : decide (64 * (p : Int) < 64 * (p2 : Int)) = false := ltF (by omega)
          have dp2 : decide (p < p2) = false := decide_eq_false (by omega)
          have HI8 := Lib.hid D8.inv
          have HP2 := Lib.hid hp2
          clear hst2 h8 D8 hp2
          go_wp2_with fail
          refine hw2.mono ?_
          rintro e w9 ⟨rfl, h9⟩
          have HE : Hid (NmRel2 w b cb C1 w9) := Lib.hid ⟨_, _, _, _, HI8.out, h9⟩
          have HK1 : Hid (k + 1 ≤ 200 ∧ 200 - (k + 1) < 200 - k) := by exact Lib.hid ⟨by omega, by omega⟩
          clear hw2 h9 hlt HI8 HI6 HP2 HP
          cases is with
          | true =>
            go_wp2_with fail
            go_roundw
            case rel => exact ⟨k + 1, by go_num, HK1.out.1, HE.out⟩
            case measure => have := HK1.out.2; simp [RowKit.intOf]; omega
          | false =>
            go_wp2_with fail
            obtain ⟨S3, T3, H3, R3, I3, h10⟩ := HE.out
            have hau := staudit_call h10 0 rfl I3
            clear h10 I3
            go_wp2_with fail
            refine hau.mono ?_
            rintro e w11 ⟨rfl, h11⟩
            have HM := Lib.hid h11.mod
            clear hau h11
            go_wp2_with fail
            have ha := awake07_call w11 (HT.out.mod HM.out)
            go_wp2_with fail
            refine ha.mono ?_
            rintro e w9 ⟨rfl, hm9⟩
            have H9 := Lib.hid (HM.out.trans' hm9)
            clear ha hm9
            go_wp2
            go_ret
            exact ⟨rfl, H9.out.below _ (Nat.le_refl _) (fun _ _ x => x)⟩
        · obtain rfl : k = 200 := by omega
          have HE := Lib.hid hrl
          clear hlt hrl
          go_wp2_with fail
          obtain ⟨S3, T3, H3, R3, I3, h10⟩ := HE.out
          have hau := staudit_call h10 0 rfl I3
          clear h10 I3
          go_wp2_with fail
          refine hau.mono ?_
          rintro e w11 ⟨rfl, h11⟩
          have HM := Lib.hid h11.mod
          clear hau h11
          go_wp2_with fail
          have ha := awake07_call w11 (HT.out.mod HM.out)
          go_wp2_with fail
          refine ha.mono ?_
          rintro e w9 ⟨rfl, hm9⟩
          have H9 := Lib.hid (HM.out.trans' hm9)
          clear ha hm9
          go_wp2
          go_ret
          exact ⟨rfl, H9.out.below _ (Nat.le_refl _) (fun _ _ x => x)⟩

theorem compactNoMore_walk (n many : Int) (sa : Option Addr) (len cap : Nat) (z : List (List Int)) (w : World) (w0 : (Lit.int .i64 n).wf = true) (w1 : (Lit.int .i64 many).wf = true) (R : Recs w sa len [some .i64, some .i64, some .i64, some .u64] z) (hT : Tab64 w) :
    Calls Tryz.prog 5 #[.int .i64 n, .int .i64 many, .slice sa len cap] w fun e w' => e = .returned (.bool true) ∧ Below w.heap.size w w' := by
  by_cases hall : (0 ≤ n ∧ n ≤ 3998) ∧ (0 ≤ many ∧ many ≤ 60) ∧ len ≤ 60
  · obtain ⟨o, rfl⟩ := Int.eq_ofNat_of_zero_le hall.1.1
    obtain ⟨t, rfl⟩ := Int.eq_ofNat_of_zero_le hall.2.1.1
    exact nomore_in o t w (by omega) (by omega) R hall.2.2 hT
  · have HM := Lib.hid (Mod.refl No w)
    have HT := Lib.hid hT
    clear hT R
    by_cases h1 : n < 0
    · have d1 := ltT h1
      clear hall h1
      go_enter Tryz.func5, Tryz.ntmps5
      have ha := awake07_call w (HT.out.mod HM.out)
      go_wp2_with fail
      refine ha.mono ?_
      rintro e w9 ⟨rfl, hm9⟩
      have H9 := Lib.hid (HM.out.trans' hm9)
      clear ha hm9
      go_wp2
      go_ret
      exact ⟨rfl, H9.out.below _ (Nat.le_refl _) (fun _ _ x => x)⟩
    have d1 : decide (n < 0) = false := ltF (by omega)
    by_cases h2 : 3998 < n
    · have d2 := ltT h2
      clear hall h1 h2
      go_enter Tryz.func5, Tryz.ntmps5
      have ha := awake07_call w (HT.out.mod HM.out)
      go_wp2_with fail
      refine ha.mono ?_
      rintro e w9 ⟨rfl, hm9⟩
      have H9 := Lib.hid (HM.out.trans' hm9)
      clear ha hm9
      go_wp2
      go_ret
      exact ⟨rfl, H9.out.below _ (Nat.le_refl _) (fun _ _ x => x)⟩
    have d2 : decide (3998 < n) = false := ltF (by omega)
    by_cases h3 : many < 0
    · have d3 := ltT h3
      clear hall h1 h2 h3
      go_enter Tryz.func5, Tryz.ntmps5
      have ha := awake07_call w (HT.out.mod HM.out)
      go_wp2_with fail
      refine ha.mono ?_
      rintro e w9 ⟨rfl, hm9⟩
      have H9 := Lib.hid (HM.out.trans' hm9)
      clear ha hm9
      go_wp2
      go_ret
      exact ⟨rfl, H9.out.below _ (Nat.le_refl _) (fun _ _ x => x)⟩
    have d3 : decide (many < 0) = false := ltF (by omega)
    by_cases h4 : 60 < many
    · have d4 := ltT h4
      clear hall h1 h2 h3 h4
      go_enter Tryz.func5, Tryz.ntmps5
      have ha := awake07_call w (HT.out.mod HM.out)
      go_wp2_with fail
      refine ha.mono ?_
      rintro e w9 ⟨rfl, hm9⟩
      have H9 := Lib.hid (HM.out.trans' hm9)
      clear ha hm9
      go_wp2
      go_ret
      exact ⟨rfl, H9.out.below _ (Nat.le_refl _) (fun _ _ x => x)⟩
    have d4 : decide (60 < many) = false := ltF (by omega)
    have d5 : decide ((60 : Int) < (len : Int)) = true := ltT (by omega)
    clear hall h1 h2 h3 h4
    go_enter Tryz.func5, Tryz.ntmps5
    have ha := awake07_call w (HT.out.mod HM.out)
    go_wp2_with fail
    refine ha.mono ?_
    rintro e w9 ⟨rfl, hm9⟩
    have H9 := Lib.hid (HM.out.trans' hm9)
    clear ha hm9
    go_wp2
    go_ret
    exact ⟨rfl, H9.out.below _ (Nat.le_refl _) (fun _ _ x => x)⟩
end Go.Proofs.YtmdnofojecncgaaGreatDoor
