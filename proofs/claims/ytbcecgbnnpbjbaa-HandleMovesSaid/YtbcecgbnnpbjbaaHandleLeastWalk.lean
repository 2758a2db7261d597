/- HandleLeast, walked. No condition. -/
import Derived.Test.YtbcecgbnnpbjbaaHandleRows
import Derived.Test.YtbcecgbnnpbjbaaHandleLeastSpec
import Derived.Test.YtbcecgbnnpbjbaaHandleTwoWalk
import Derived.Test.YtbcecgbnnpbjbaaArgs
namespace Go.Proofs.Ytbcecgbnnpbjbaa
open Go Go.RowKit

/-- The names of the first i slots. -/
def leastNames (i : Nat) : List Int := (List.range i).map HTbl.leastName
theorem leastNames_len (i : Nat) : (leastNames i).length = i := by simp [leastNames]
theorem leastNames_succ (i : Nat) : leastNames i ++ [HTbl.leastName i] = leastNames (i + 1) := by simp [leastNames, List.range_succ]
theorem leastNames_get (i k : Nat) (h : k < i) : (leastNames i)[k]? = some (HTbl.leastName k) := by simp [leastNames, h]

def LeastRel (w : World) (m j : Nat) (l : Value) (wr : World) : Prop := ∃ tv : Value, NT w wr w.heap.size tv (HTbl.leastAt m j fun _ => false) ∧ IRow w wr 31 .u64 l (leastNames j)
def LeastRel2 (w : World) (m L : Nat) (l : Value) (wr : World) : Prop := ∃ (tv : Value) (P : Nat → Bool), NT w wr w.heap.size tv (HTbl.leastAt m m P) ∧ HTbl.LeastInv m L P ∧ IRow w wr 31 .u64 l (leastNames m)

set_option maxRecDepth 100000 in
set_option maxHeartbeats 4000000 in
theorem least_in (m : Nat) (s1 : Option Addr) (len1 cap1 : Nat) (z1 : List (List Int)) (w : World) (h1 : 1 ≤ m) (h2 : m ≤ 30) (R : Recs w s1 len1 [some .i64] z1) (hl : len1 ≤ 60) :
    Calls Try.prog 3 #[.int .i64 m, .slice s1 len1 cap1] w fun e w' => e = .returned (.bool true) ∧ Below w.heap.size w w' := by
  have d1 : decide ((m : Int) < 1) = false := ltF (by omega)
  have d2 : decide ((30 : Int) < (m : Int)) = false := ltF (by omega)
  have d60 : decide ((60 : Int) < (len1 : Int)) = false := ltF (by omega)
  have hc := new_ok w m 4294967295 (by omega) (by omega) (by omega) (by omega)
  obtain ⟨i0, hi0, hz0, hz1, hz2⟩ := info_parts infoHandle2
  have HI := Lib.hid (And.intro hi0 (And.intro hz0 (And.intro hz1 hz2)))
  have HR := Lib.hid R
  clear R hi0 hz0 hz1 hz2
  go_enter Try.func3, Try.ntmps3
  go_wp2_with fail
  refine hc.mono ?_
  rintro e w0 ⟨rfl, hT0, hM0⟩
  have hst := Lib.hid (show LeastRel w m 0 (.slice none 0 0) w0 from ⟨_, NT.new (Mod.refl _ w) hT0 hM0, IRow.nil _ _ _ _⟩)
  clear hT0 hM0 hc
  go_wp2_with fail
  go_loopw [7, 8] (fun l i wr => ∃ j : Nat, i = .int .i64 j ∧ j ≤ m ∧ LeastRel w m j l wr) (fun _ i _ => m - (intOf i).toNat)
  case atStart => exact ⟨0, rfl, Nat.zero_le _, hst.out⟩
  case round =>
    obtain ⟨j, rfl, hj, tv, hN, hL⟩ := hrel
    clear hst
    by_cases hlt : j < m
    · obtain ⟨sl, capl, rfl⟩ := hL.form_of (leastNames_len j)
      have ho := HTbl.least_open m j hlt
      have hc := hN.open_eq (j : Int) (by omega) ho
      have hnm : HTbl.leastName j = 4294967296 + ((j : Int) + 1) := rfl
      rw [hnm] at hc
      have HP := Lib.hid (And.intro hN hL)
      clear hN hL ho hnm
      go_wp2_with fail
      refine hc.mono ?_
      rintro e w2 ⟨rfl, tv2, hN2, hM2⟩
      obtain ⟨hN, hL⟩ := HP.out
      have hL2 := hL.mod_tab hN.tab (by decide) (by decide) hM2
      have hown := hL2.own
      rw [leastNames_len] at hown
      have HQ := Lib.hid (And.intro hN2 hL2)
      obtain ⟨hi0, hz0, hz1, hz2⟩ := HI.out
      clear hN hL hc HP hM2 hN2 hL2
      go_wp2_with (at_builtin; refine wpList_append_cell w2 (by rfl) _ _ 29 rfl 31 i0 _ 8 Try.underlying29 hi0 hz0 hz1 hz2 rfl _ _ _ (by rfl) hown (.int .u64 (4294967296 + ((j : Int) + 1))) 31 _ (by rfl) (by simp [leastNames]) (by rfl) (by unfold maxLen; omega) (by omega) ?_)
      intro gg capg w3 hown3 hm3 hg3
      obtain ⟨hN2, hL2⟩ := HQ.out
      have hL3 := hL2.push (g := gg) (cap := capg) (x := HTbl.leastName j) hN2.mod.size (by rw [leastNames_len]; exact hown3) hg3
      rw [leastNames_len, leastNames_succ] at hL3
      have hN3 := hN2.mod_row hL2 (by decide) (by decide) hm3
      have hfin := Lib.hid (show LeastRel w m (j + 1) _ w3 from ⟨_, hN3, hL3⟩)
      clear hN2 hL2 hL3 hN3 hown3 hm3 hg3 HQ hown hi0 hz0 hz1 hz2
      go_wp2
      go_roundw
      case rel => exact ⟨j + 1, by go_num, by omega, hfin.out⟩
      case measure => simp [intOf]; omega
    · have hje : j = m := by omega
      subst hje
      obtain ⟨sl, capl, rfl⟩ := hL.form_of (leastNames_len j)
      have hst := Lib.hid (show LeastRel2 w j j (.slice sl j capl) wr from ⟨_, _, hN, HTbl.LeastInv.first j, hL⟩)
      clear hN hL hlt
      go_wp2_with fail
      go_loopw [11, 12] (fun a i wr => ∃ L k : Nat, a = .int .i64 L ∧ i = .int .i64 k ∧ k ≤ len1 ∧ LeastRel2 w j L (.slice sl j capl) wr) (fun _ i _ => len1 - (intOf i).toNat)
      case atStart => exact ⟨j, 0, rfl, rfl, Nat.zero_le _, hst.out⟩
      case round =>
        obtain ⟨L, k, rfl, rfl, hk, tv, P, hN, hinv, hL⟩ := hrel
        clear hst
        have hLj := hinv.le
        by_cases hlt : k < len1
        · obtain ⟨b, off, rfl, hb, hc⟩ := HR.out.cells (by omega)
          have hzj : z1[k]? = some (z1[k]'(by rw [HR.out.count]; exact hlt)) := List.getElem?_eq_getElem _
          obtain ⟨hrl, hro⟩ := HR.out.ok _ (List.mem_of_getElem? hzj)
          generalize z1[k]'(by rw [HR.out.count]; exact hlt) = r at *
          match r, hrl with
          | [x], _ =>
          have c0 := hN.mod.cell (hc k _ hzj 0 _ x rfl rfl) (fun x => x)
          have HC := Lib.hid (hc k _ hzj 0 _ x rfl rfl)
          simp only [List.length_cons, List.length_nil, Nat.add_zero, Nat.zero_add, Nat.reduceAdd, Nat.mul_one, fv] at c0 HC
          clear hc hzj hro hb
          by_cases x0 : 0 ≤ x
          · obtain ⟨y, rfl⟩ := Int.eq_ofNat_of_zero_le x0
            have b0 : decide ((0 : Int) ≤ (y : Int)) = true := leT x0
            by_cases xm : y < j
            · have bm : decide ((y : Int) < (j : Int)) = true := ltT (by omega)
              obtain ⟨g, rfl, _, cl, _⟩ := hL.at_ (leastNames_get j y xm)
              have hnm := HTbl.leastName y
              have n0 : 0 ≤ HTbl.leastName y := by unfold HTbl.leastName; omega
              have n1 : HTbl.leastName y < 18446744073709551616 := by unfold HTbl.leastName; omega
              generalize hP : P y = p
              cases p
              · have hc := hN.close_eq _ n0 n1 (HTbl.least_close j j P y xm h2 hP)
                have HP := Lib.hid (And.intro hN (And.intro hinv hL))
                clear hN hinv hL hP
                go_wp2_with fail
                refine hc.mono ?_
                rintro e w2 ⟨rfl, hN2, hM2⟩
                obtain ⟨hN, hinv, hL⟩ := HP.out
                have hL2 := hL.mod_tab hN.tab (by decide) (by decide) hM2
                have c1 := hN2.mod.cell HC.out (fun x => x)
                by_cases hy : y < L
                · have bl : decide ((y : Int) < (L : Int)) = true := ltT (by omega)
                  have hfin := Lib.hid (show LeastRel2 w j y (.slice (some ⟨g, 0, none⟩) j capl) w2 from ⟨_, _, hN2, hinv.less y hy, hL2⟩)
                  clear hN hinv hL hL2 hN2 hM2 hc c0 cl
                  go_wp2
                  go_roundw
                  case rel => exact ⟨y, k + 1, rfl, by go_num, by omega, hfin.out⟩
                  case measure => simp [intOf]; omega
                · have bl : decide ((y : Int) < (L : Int)) = false := ltF (by omega)
                  have hfin := Lib.hid (show LeastRel2 w j L (.slice (some ⟨g, 0, none⟩) j capl) w2 from ⟨_, _, hN2, hinv.more y (by omega), hL2⟩)
                  clear hN hinv hL hL2 hN2 hM2 hc c0 cl
                  go_wp2
                  go_roundw
                  case rel => exact ⟨L, k + 1, rfl, by go_num, by omega, hfin.out⟩
                  case measure => simp [intOf]; omega
              · have hc := hN.close_eq _ n0 n1 (HTbl.least_stale j j P y xm h2 hP)
                have HP := Lib.hid (And.intro hN (And.intro hinv hL))
                clear hN hinv hL hP
                go_wp2_with fail
                refine hc.mono ?_
                rintro e w2 ⟨rfl, hN2, hM2⟩
                obtain ⟨hN, hinv, hL⟩ := HP.out
                have hL2 := hL.mod_tab hN.tab (by decide) (by decide) hM2
                have hfin := Lib.hid (show LeastRel2 w j L (.slice (some ⟨g, 0, none⟩) j capl) w2 from ⟨_, _, hN2, hinv, hL2⟩)
                clear hN hinv hL hL2 hN2 hM2 hc c0 cl
                go_wp2
                go_roundw
                case rel => exact ⟨L, k + 1, rfl, by go_num, by omega, hfin.out⟩
                case measure => simp [intOf]; omega
            · have bm : decide ((y : Int) < (j : Int)) = false := ltF (by omega)
              have hfin := Lib.hid (show LeastRel2 w j L (.slice sl j capl) wr from ⟨_, _, hN, hinv, hL⟩)
              clear hN hinv hL
              go_wp2
              go_roundw
              case rel => exact ⟨L, k + 1, rfl, by go_num, by omega, hfin.out⟩
              case measure => simp [intOf]; omega
          · have b0 : decide ((0 : Int) ≤ x) = false := leF (by omega)
            have hfin := Lib.hid (show LeastRel2 w j L (.slice sl j capl) wr from ⟨_, _, hN, hinv, hL⟩)
            clear hN hinv hL
            go_wp2
            go_roundw
            case rel => exact ⟨L, k + 1, rfl, by go_num, by omega, hfin.out⟩
            case measure => simp [intOf]; omega
        · have hke : k = len1 := by omega
          subst hke
          clear HR hL
          by_cases hLm : L < j
          · obtain ⟨T, ho, hTl⟩ := HTbl.least_last j L P hinv hLm
            have hc := hN.open_eq 7 (by omega) ho
            have bL : ((L : Int) == (j : Int)) = false := beqF (by omega)
            have HT := Lib.hid hTl
            clear hN hinv ho hTl
            go_wp2_with fail
            refine hc.mono ?_
            rintro e w2 ⟨rfl, tv2, hN2, _⟩
            have hu := hN2.used_eq
            rw [HT.out] at hu
            have HN := Lib.hid hN2
            clear hN2 hc
            go_wp2_with fail
            refine hu.mono ?_
            rintro e w2 ⟨rfl, rfl⟩
            clear hu
            go_wp2_with fail
            refine (awake_call _).mono ?_
            rintro e w3 ⟨rfl, hm⟩
            go_wp2
            go_ret
            exact ⟨rfl, (HN.out.mod.trans' hm).below _ (Nat.le_refl _) (fun _ _ x => x)⟩
          · have hLe : L = j := by omega
            subst hLe
            have hc := hN.open_eq 7 (by omega) (HTbl.least_full L P hinv)
            clear hN hinv
            go_wp2_with fail
            refine hc.mono ?_
            rintro e w2 ⟨rfl, tv2, hN2, _⟩
            have HN := Lib.hid hN2
            clear hN2 hc
            go_wp2_with fail
            refine (awake_call _).mono ?_
            rintro e w3 ⟨rfl, hm⟩
            go_wp2
            go_ret
            exact ⟨rfl, (HN.out.mod.trans' hm).below _ (Nat.le_refl _) (fun _ _ x => x)⟩

set_option maxRecDepth 100000 in
theorem handleLeast_walk (a0 : Int) (s1 : Option Addr) (len1 cap1 : Nat) (z1 : List (List Int)) (w : World) (_w0 : (Lit.int .i64 a0).wf = true) (R : Recs w s1 len1 [some .i64] z1) :
    Calls Try.prog 3 #[.int .i64 a0, .slice s1 len1 cap1] w fun e w' => e = .returned (.bool true) ∧ Below w.heap.size w w' := by
  have ha := (awake_call w).mono (R' := fun e w' => e = .returned (.bool true) ∧ Below w.heap.size w w') fun e w' ⟨he, hm⟩ => ⟨he, hm.below _ (Nat.le_refl _) (fun _ _ x => x)⟩
  by_cases c1 : a0 < 1
  · have d1 : decide (a0 < 1) = true := ltT c1
    clear R c1
    go_enter Try.func3, Try.ntmps3
    go_wp2_with ((with_reducible refine ha.mono ?_); rintro e w' ⟨rfl, hb⟩)
    go_ret
    exact ⟨rfl, hb⟩
  by_cases c2 : 30 < a0
  · have d1 : decide (a0 < 1) = false := ltF (by omega)
    have d2 : decide (30 < a0) = true := ltT c2
    clear R c1 c2
    go_enter Try.func3, Try.ntmps3
    go_wp2_with ((with_reducible refine ha.mono ?_); rintro e w' ⟨rfl, hb⟩)
    go_ret
    exact ⟨rfl, hb⟩
  by_cases hl : len1 ≤ 60
  · obtain ⟨m, rfl⟩ := Int.eq_ofNat_of_zero_le (show 0 ≤ a0 by omega)
    exact least_in m s1 len1 cap1 z1 w (by omega) (by omega) R hl
  · have d1 : decide (a0 < 1) = false := ltF (by omega)
    have d2 : decide (30 < a0) = false := ltF (by omega)
    have d60 : decide ((60 : Int) < (len1 : Int)) = true := ltT (by omega)
    clear R c1 c2
    go_enter Try.func3, Try.ntmps3
    go_wp2_with ((with_reducible refine ha.mono ?_); rintro e w' ⟨rfl, hb⟩)
    go_ret
    exact ⟨rfl, hb⟩
end Go.Proofs.Ytbcecgbnnpbjbaa
