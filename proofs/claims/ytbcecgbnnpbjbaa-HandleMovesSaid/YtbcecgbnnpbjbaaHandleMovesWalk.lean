/- HandleMoves, walked. No condition. -/
import Derived.Test.YtbcecgbnnpbjbaaHandleLeastWalk
import Derived.Test.YtbcecgbnnpbjbaaHandleMovesSpec
import Derived.Test.YtbcecgbnnpbjbaaArgsArr
import Derived.StillTailTactics
namespace Go.Proofs.Ytbcecgbnnpbjbaa
open Go Go.RowKit

theorem infoInt2 : (Try.prog.info? 3).map (fun i => (i.zero, i.size, i.bytes)) = some (some (.int .i64 0), 1, 8) := by kernel_rfl

def MovesRel (w : World) (m j : Nat) (l a : Value) (wr : World) : Prop := ∃ (tv : Value) (ad : List Int), ad.length = j ∧ NT w wr w.heap.size tv (HTbl.allOpen m ad) ∧ IRow w wr 31 .u64 l (leastNames j) ∧ IRow w wr 3 .i64 a ad
def MCtr (n : Nat) (i : Value) : Prop := ∃ q : Nat, q ≤ n ∧ i = .int .i64 q

set_option maxRecDepth 100000 in
set_option maxHeartbeats 4000000 in
theorem moves_in (m : Nat) (s1 : Option Addr) (len1 cap1 : Nat) (z1 : List (List Int)) (w : World) (h1 : 1 ≤ m) (h2 : m ≤ 30) (R : Recs w s1 len1 [some .i64, some .i64] z1) (hl : len1 ≤ 60) :
    Calls Try.prog 9 #[.int .i64 m, .slice s1 len1 cap1] w fun e w' => e = .returned (.bool true) ∧ Below w.heap.size w w' := by
  have d1 : decide ((m : Int) < 1) = false := ltF (by omega)
  have d2 : decide ((30 : Int) < (m : Int)) = false := ltF (by omega)
  have d60 : decide ((60 : Int) < (len1 : Int)) = false := ltF (by omega)
  have hz : ((m : Int) == 0) = false := beqF (by omega)
  have hc := new_ok w m 4294967295 (by omega) (by omega) (by omega) (by omega)
  obtain ⟨i0, hi0, hz0, hz1, hz2⟩ := info_parts infoHandle2
  have HI := Lib.hid (And.intro hi0 (And.intro hz0 (And.intro hz1 hz2)))
  obtain ⟨i3, hi3, hy0, hy1, hy2⟩ := info_parts infoInt2
  have HI3 := Lib.hid (And.intro hi3 (And.intro hy0 (And.intro hy1 hy2)))
  have HR := Lib.hid R
  clear R hi0 hz0 hz1 hz2 hi3 hy0 hy1 hy2
  go_enter Try.func9, Try.ntmps9
  go_wp2_with fail
  refine hc.mono ?_
  rintro e w0 ⟨rfl, hT0, hM0⟩
  have hst := Lib.hid (show MovesRel w m 0 (.slice none 0 0) (.slice none 0 0) w0 from ⟨_, [], rfl, NT.new (Mod.refl _ w) hT0 hM0, IRow.nil _ _ _ _, IRow.nil _ _ _ _⟩)
  clear hT0 hM0 hc
  go_wp2_with fail
  go_loopw [7, 8, 9] (fun l a i wr => ∃ j : Nat, i = .int .i64 j ∧ j ≤ m ∧ MovesRel w m j l a wr) (fun _ _ i _ => m - (intOf i).toNat)
  case atStart => exact ⟨0, rfl, Nat.zero_le _, hst.out⟩
  case round =>
    obtain ⟨j, rfl, hj, tv, ad, hlen, hN, hL, hA⟩ := hrel
    clear hst
    by_cases hlt : j < m
    · obtain ⟨sl, capl, rfl⟩ := hL.form_of (leastNames_len j)
      obtain ⟨sa, capa, rfl⟩ := hA.form_of hlen
      have ho := HTbl.all_open m ad (by omega) (j : Int) (by omega)
      rw [hlen] at ho
      have hc := hN.open_eq (j : Int) (by omega) ho
      have n0 : 0 ≤ HTbl.leastName j ∧ HTbl.leastName j < 18446744073709551616 := by unfold HTbl.leastName; omega
      obtain ⟨nm, hnm⟩ : ∃ nm, HTbl.leastName j = nm := ⟨_, rfl⟩
      rw [hnm] at hc
      have HP := Lib.hid (And.intro hN (And.intro hL (And.intro hA (And.intro hlen hnm))))
      clear hN hL hA ho hlen hnm n0
      go_wp2_with fail
      refine hc.mono ?_
      rintro e w1 ⟨rfl, tv1, hN1, hM1⟩
      obtain ⟨hN, hL, hA, hlen, hnm⟩ := HP.out
      have hL1 := hL.mod_tab hN.tab (by decide) (by decide) hM1
      have hA1 := hA.mod_tab hN.tab (by decide) (by decide) hM1
      have hown := hL1.own
      rw [leastNames_len] at hown
      have HQ := Lib.hid (And.intro hN1 (And.intro hL1 hA1))
      obtain ⟨hi0, hz0, hz1, hz2⟩ := HI.out
      clear hN hL hA hc hM1 hN1 hL1 hA1 hlen hnm
      go_wp2_with (at_builtin; refine wpList_append_cell w1 (by rfl) _ _ 29 rfl 31 i0 _ 8 Try.underlying29 hi0 hz0 hz1 hz2 rfl _ _ _ (by rfl) hown (.int .u64 nm) 31 _ (by rfl) (by simp) (by rfl) (by unfold maxLen; omega) (by omega) ?_)
      intro gg capg w2 hown2 hm2 hg2
      obtain ⟨hN1, hL1, hA1⟩ := HQ.out
      obtain ⟨_, _, _, hlen, hnm⟩ := HP.out
      have hL2 := hL1.push (g := gg) (cap := capg) (x := nm) hN1.mod.size (by rw [leastNames_len]; exact hown2) hg2
      rw [leastNames_len, ← hnm, leastNames_succ] at hL2
      have hA2 := hA1.mod_row hL1.own (by decide) hm2
      have hN2 := hN1.mod_row hL1 (by decide) (by decide) hm2
      have hown := hA2.own
      rw [hlen] at hown
      have HQ2 := Lib.hid (And.intro hN2 (And.intro hL2 hA2))
      obtain ⟨hi3, hy0, hy1, hy2⟩ := HI3.out
      clear hN1 hL1 hA1 hN2 hL2 hA2 hown2 hm2 hg2 HQ hlen hnm hi0 hz0 hz1 hz2
      go_wp2_with (at_builtin; refine wpList_append_cell w2 (by rfl) _ _ 22 rfl 3 i3 _ 8 Try.underlying22 hi3 hy0 hy1 hy2 rfl _ _ _ (by rfl) hown (.int .i64 j) 3 _ (by rfl) (by simp) (by rfl) (by unfold maxLen; omega) (by omega) ?_)
      intro gh caph w3 hown3 hm3 hg3
      obtain ⟨hN2, hL2, hA2⟩ := HQ2.out
      obtain ⟨_, _, _, hlen, hnm⟩ := HP.out
      have hN3 := hN2.mod_row hA2 (by decide) (by decide) hm3
      have hL3 := hL2.mod_row hA2.own (by decide) hm3
      have hA3 := hA2.push (g := gh) (cap := caph) (x := (j : Int)) hN2.mod.size (by rw [hlen]; exact hown3) hg3
      rw [hlen] at hA3
      have hfin := Lib.hid (show MovesRel w m (j + 1) _ _ w3 from ⟨_, _, by simp [hlen], hN3, hL3, hA3⟩)
      clear hN2 hL2 hA2 hN3 hL3 hA3 hown3 hm3 hg3 HQ2 HP hown hlen hnm hi3 hy0 hy1 hy2
      go_wp2
      go_roundw
      case rel => exact ⟨j + 1, by go_num, by omega, hfin.out⟩
      case measure => simp [intOf]; omega
    · have hje : j = m := by omega
      obtain rfl : m = j := by omega
      obtain ⟨sl, capl, rfl⟩ := hL.form_of (leastNames_len m)
      obtain ⟨sa, capa, rfl⟩ := hA.form_of hlen
      obtain ⟨g1, rfl⟩ : ∃ g, sl = some ⟨g, 0, none⟩ := by obtain ⟨g, e, _⟩ := hL.at_ (leastNames_get m 0 (by omega)); exact ⟨g, e⟩
      obtain ⟨g2, rfl⟩ : ∃ g, sa = some ⟨g, 0, none⟩ := by obtain ⟨g, e, _⟩ := hA.at_ (List.getElem?_eq_getElem (show 0 < ad.length by omega)); exact ⟨g, e⟩
      have hst := Lib.hid (show MovesRel w m m (.slice (some ⟨g1, 0, none⟩) m capl) (.slice (some ⟨g2, 0, none⟩) m capa) wr from ⟨_, _, hlen, hN, hL, hA⟩)
      clear hN hL hA hlt hlen hje
      go_wp2_with fail
      go_loopw [12] (fun i wr => ∃ k : Nat, i = .int .i64 k ∧ k ≤ len1 ∧ MovesRel w m m (.slice (some ⟨g1, 0, none⟩) m capl) (.slice (some ⟨g2, 0, none⟩) m capa) wr) (fun i _ => len1 - (intOf i).toNat)
      case atStart => exact ⟨0, rfl, Nat.zero_le _, hst.out⟩
      case round =>
        obtain ⟨i, rfl, hi, tv, ad, hlen, hN, hL, hA⟩ := hrel
        clear hst
        by_cases hlt : i < len1
        · obtain ⟨b, off, rfl, hb, hc⟩ := HR.out.cells (by omega)
          have hzj : z1[i]? = some (z1[i]'(by rw [HR.out.count]; exact hlt)) := List.getElem?_eq_getElem _
          obtain ⟨hrl, hro⟩ := HR.out.ok _ (List.mem_of_getElem? hzj)
          generalize z1[i]'(by rw [HR.out.count]; exact hlt) = r at *
          match r, hrl with
          | [x, a], _ =>
          have c0 := hN.mod.cell (hc i _ hzj 0 _ x rfl rfl) (fun x => x)
          have c1 := hN.mod.cell (hc i _ hzj 1 _ a rfl rfl) (fun x => x)
          have HC := Lib.hid (hc i _ hzj 1 _ a rfl rfl)
          have ha := bounds_i64 (hro 1 _ a rfl rfl)
          simp only [List.length_cons, List.length_nil, Nat.add_zero, Nat.zero_add, Nat.reduceAdd, fv] at c0 c1 HC
          have hm : -(m : Int) < x.tmod (m : Int) ∧ x.tmod (m : Int) < (m : Int) := by
            have h1 := Int.tmod_lt_of_pos x (show (0 : Int) < (m : Int) by omega)
            have h2 := Int.tmod_lt_of_pos (-x) (show (0 : Int) < (m : Int) by omega)
            rw [Int.neg_tmod] at h2
            omega
          obtain ⟨y, hy⟩ : ∃ y, x.tmod (m : Int) = y := ⟨_, rfl⟩
          rw [hy] at hm
          obtain ⟨kk, hkk⟩ : ∃ kk, (y + (m : Int)).tmod (m : Int) = kk := ⟨_, rfl⟩
          have hk0 : 0 ≤ kk ∧ kk < (m : Int) := by
            have h1 := Int.tmod_lt_of_pos (y + (m : Int)) (show (0 : Int) < (m : Int) by omega)
            have h2 := Int.tmod_nonneg (m : Int) (show 0 ≤ y + (m : Int) by omega)
            omega
          obtain ⟨k, rfl⟩ := Int.eq_ofNat_of_zero_le hk0.1
          have hkm : k < m := by omega
          have hka : k < ad.length := by omega
          obtain ⟨g5, hg5, _, e1, _⟩ := hL.at_ (leastNames_get m k hkm)
          cases hg5
          have n0 : 0 ≤ HTbl.leastName k := by unfold HTbl.leastName; omega
          have n1 : HTbl.leastName k < 18446744073709551616 := by unfold HTbl.leastName; omega
          clear hc hzj hro hb
          by_cases a0 : 0 ≤ a
          · have ba : decide ((0 : Int) ≤ a) = true := leT a0
            have hc := hN.drew.move_eq _ a n0 n1 ha.2 (HTbl.all_move m ad k hka (by omega) a a0)
            generalize HTbl.leastName k = nm at *
            have HP := Lib.hid (And.intro hN (And.intro hL (And.intro hA hlen)))
            clear hN hL hA hlen hka
            go_wp2_with fail
            go_still_tail 10, (by kernel_rfl)
            change wpList _ _ _ _ _ (World.drew _)
            go_wp2_with fail
            refine hc.mono ?_
            rintro e w1 ⟨rfl, hN1, hM1⟩
            have cN := hN1.mod.cell HC.out (fun x => x)
            obtain ⟨hN, hL, hA, hlen⟩ := HP.out
            have hL1 := hL.drew.mod_tab hN.drew.tab (by decide) (by decide) hM1
            have hA1 := hA.drew.mod_tab hN.drew.tab (by decide) (by decide) hM1
            obtain ⟨g6, hg6, _, e3, f3⟩ := hA1.at_ (List.getElem?_eq_getElem (show k < ad.length by omega))
            cases hg6
            have f3 := f3 k
            generalize ad[k] = old at *
            have hN2 := hN1.setCell hA1 (by decide) (by decide) k (.int .i64 a)
            have hL2 := hL1.setCell hA1 (by decide) k (.int .i64 a)
            have hA2 := hA1.set k a
            have hlen2 : (ad.set k a).length = m := by rw [List.length_set]; exact hlen
            have HX2 := Lib.hid (And.intro hN2 (And.intro hL2 (And.intro hA2 hlen2)))
            clear hN hL hA hlen hM1 hN1 hL1 hA1 hN2 hL2 hA2 hlen2 HP hc c0 c1 e1
            go_wp2_with fail
            go_loop [15] (fun i => MCtr m i) (fun i => m - (intOf i).toNat)
            case atStart => exact ⟨0, Nat.zero_le _, rfl⟩
            case round =>
              obtain ⟨q, hq, rfl⟩ := hrel
              by_cases hql : q < m
              · obtain ⟨hN2, hL2, hA2, hlen⟩ := HX2.out
                have hql2 : q < (ad.set k a).length := by rw [hlen]; exact hql
                have hy := List.getElem?_eq_getElem hql2
                obtain ⟨g3, hg3, _, d1, _⟩ := hL2.at_ (leastNames_get m q hql)
                obtain ⟨g4, hg4, _, d2, _⟩ := hA2.at_ hy
                cases hg3; cases hg4
                have hat := hN2.at_eq (HTbl.leastName q) (by unfold HTbl.leastName; omega) (by unfold HTbl.leastName; omega) (HTbl.all_at m (ad.set k a) q hql2 (by omega))
                generalize HTbl.leastName q = nm at *
                generalize (ad.set k a)[q] = y at *
                have cy : (y != y) = false := by simp
                clear hN2 hL2 hA2 hy HX2 hlen hql2
                go_wp2_with ((with_reducible refine hat.mono ?_); rintro e w' ⟨rfl, rfl⟩)
                go_round
                case rel => exact ⟨q + 1, hql, by go_num⟩
                case measure => simp [intOf]; omega
              · obtain ⟨hN2, hL2, hA2, hlen⟩ := HX2.out
                have hfin := Lib.hid (show MovesRel w m m (.slice (some ⟨g1, 0, none⟩) m capl) (.slice (some ⟨g2, 0, none⟩) m capa) (w1.setCell ⟨g2, k, none⟩ (.int .i64 a)) from ⟨_, _, hlen, hN2, hL2, hA2⟩)
                clear HX2 hN2 hL2 hA2 hlen
                go_wp2
                go_roundw
                case rel => exact ⟨i + 1, by go_num, by omega, hfin.out⟩
                case measure => simp [intOf]; omega
          · have ba : decide ((0 : Int) ≤ a) = false := leF (by omega)
            have hc := hN.drew.move_eq _ a n0 n1 ha.2 (HTbl.all_stays m ad (HTbl.leastName k) a (by omega))
            generalize HTbl.leastName k = nm at *
            have HP := Lib.hid (And.intro hN (And.intro hL (And.intro hA hlen)))
            clear hN hL hA hlen hka
            go_wp2_with fail
            go_still_tail 10, (by kernel_rfl)
            change wpList _ _ _ _ _ (World.drew _)
            go_wp2_with fail
            refine hc.mono ?_
            rintro e w1 ⟨rfl, hN1, hM1⟩
            have cN := hN1.mod.cell HC.out (fun x => x)
            obtain ⟨hN, hL, hA, hlen⟩ := HP.out
            have hL1 := hL.drew.mod_tab hN.drew.tab (by decide) (by decide) hM1
            have hA1 := hA.drew.mod_tab hN.drew.tab (by decide) (by decide) hM1
            have HX2 := Lib.hid (And.intro hN1 (And.intro hL1 (And.intro hA1 hlen)))
            clear hN hL hA hlen hM1 hN1 hL1 hA1 HP hc c0 c1 e1
            go_wp2_with fail
            go_loop [15] (fun i => MCtr m i) (fun i => m - (intOf i).toNat)
            case atStart => exact ⟨0, Nat.zero_le _, rfl⟩
            case round =>
              obtain ⟨q, hq, rfl⟩ := hrel
              by_cases hql : q < m
              · obtain ⟨hN2, hL2, hA2, hlen⟩ := HX2.out
                have hql2 : q < (ad).length := by rw [hlen]; exact hql
                have hy := List.getElem?_eq_getElem hql2
                obtain ⟨g3, hg3, _, d1, _⟩ := hL2.at_ (leastNames_get m q hql)
                obtain ⟨g4, hg4, _, d2, _⟩ := hA2.at_ hy
                cases hg3; cases hg4
                have hat := hN2.at_eq (HTbl.leastName q) (by unfold HTbl.leastName; omega) (by unfold HTbl.leastName; omega) (HTbl.all_at m (ad) q hql2 (by omega))
                generalize HTbl.leastName q = nm at *
                generalize (ad)[q] = y at *
                have cy : (y != y) = false := by simp
                clear hN2 hL2 hA2 hy HX2 hlen hql2
                go_wp2_with ((with_reducible refine hat.mono ?_); rintro e w' ⟨rfl, rfl⟩)
                go_round
                case rel => exact ⟨q + 1, hql, by go_num⟩
                case measure => simp [intOf]; omega
              · obtain ⟨hN2, hL2, hA2, hlen⟩ := HX2.out
                have hfin := Lib.hid (show MovesRel w m m (.slice (some ⟨g1, 0, none⟩) m capl) (.slice (some ⟨g2, 0, none⟩) m capa) w1 from ⟨_, _, hlen, hN2, hL2, hA2⟩)
                clear HX2 hN2 hL2 hA2 hlen
                go_wp2
                go_roundw
                case rel => exact ⟨i + 1, by go_num, by omega, hfin.out⟩
                case measure => simp [intOf]; omega
        · have hie : i = len1 := by omega
          subst hie
          have hlv := hN.live_eq
          rw [HTbl.all_live, hlen] at hlv
          have HT := Lib.hid hlen
          clear HR hL hA hN hlen
          go_wp2_with fail
          refine hlv.mono ?_
          rintro e w2 ⟨sq, capq, rfl, hN2, _, _⟩
          have hu := hN2.used_eq
          rw [HTbl.all_len, HT.out] at hu
          have HN := Lib.hid hN2
          clear hlv hN2
          go_wp2_with fail
          refine hu.mono ?_
          rintro e w2 ⟨rfl, rfl⟩
          clear hu
          go_wp2_with fail
          refine (awake_call _).mono ?_
          rintro e w3 ⟨rfl, hm⟩
          go_wp2
          go_ret
          exact ⟨rfl, (HN.out.mod.trans' hm).below _ (Nat.le_refl _) (fun _ _ x => x)⟩

set_option maxRecDepth 100000 in
theorem handleMoves_walk (a0 : Int) (s1 : Option Addr) (len1 cap1 : Nat) (z1 : List (List Int)) (w : World) (_w0 : (Lit.int .i64 a0).wf = true) (R : Recs w s1 len1 [some .i64, some .i64] z1) :
    Calls Try.prog 9 #[.int .i64 a0, .slice s1 len1 cap1] w fun e w' => e = .returned (.bool true) ∧ Below w.heap.size w w' := by
  have ha := (awake_call w).mono (R' := fun e w' => e = .returned (.bool true) ∧ Below w.heap.size w w') fun e w' ⟨he, hm⟩ => ⟨he, hm.below _ (Nat.le_refl _) (fun _ _ x => x)⟩
  by_cases c1 : a0 < 1
  · have d1 : decide (a0 < 1) = true := ltT c1
    clear R c1
    go_enter Try.func9, Try.ntmps9
    go_wp2_with ((with_reducible refine ha.mono ?_); rintro e w' ⟨rfl, hb⟩)
    go_ret
    exact ⟨rfl, hb⟩
  by_cases c2 : 30 < a0
  · have d1 : decide (a0 < 1) = false := ltF (by omega)
    have d2 : decide (30 < a0) = true := ltT c2
    clear R c1 c2
    go_enter Try.func9, Try.ntmps9
    go_wp2_with ((with_reducible refine ha.mono ?_); rintro e w' ⟨rfl, hb⟩)
    go_ret
    exact ⟨rfl, hb⟩
  by_cases hl : len1 ≤ 60
  · obtain ⟨m, rfl⟩ := Int.eq_ofNat_of_zero_le (show 0 ≤ a0 by omega)
    exact moves_in m s1 len1 cap1 z1 w (by omega) (by omega) R hl
  · have d1 : decide (a0 < 1) = false := ltF (by omega)
    have d2 : decide (30 < a0) = false := ltF (by omega)
    have d60 : decide ((60 : Int) < (len1 : Int)) = true := ltT (by omega)
    clear R c1 c2
    go_enter Try.func9, Try.ntmps9
    go_wp2_with ((with_reducible refine ha.mono ?_); rintro e w' ⟨rfl, hb⟩)
    go_ret
    exact ⟨rfl, hb⟩
end Go.Proofs.Ytbcecgbnnpbjbaa
