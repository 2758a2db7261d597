/- HandleTwo, walked; nth, walked. No condition. -/
import Derived.Test.YtbcecgbnnpbjbaaHandleRows
import Derived.Test.YtbcecgbnnpbjbaaArgs
import Derived.Deep.CutBlock
import Derived.Deep.DeepCutAuto
namespace Go.Proofs.Ytbcecgbnnpbjbaa
open Go Go.RowKit

/-- The n-th of some, counted round: some handle, or 0. -/
theorem nth_call {w0 w : World} {sa : Option Addr} {L cap : Nat} {ls : List Int} (h : IRow w0 w 31 .u64 (.slice sa L cap) ls) (hl : ls.length = L) (hb : L ≤ 1000) (hx : ∀ x ∈ ls, 0 ≤ x ∧ x < 18446744073709551616) (n : Int) (_hn : -9223372036854775808 ≤ n ∧ n ≤ 9223372036854775807) :
    Calls Try.prog 19 #[.slice sa L cap, .int .i64 n] w fun e w' => (∃ x : Int, e = .returned (.int .u64 x) ∧ 0 ≤ x ∧ x < 18446744073709551616) ∧ w = w' := by
  have hP : ∀ (x : Int) (w' : World), 0 ≤ x ∧ x < 18446744073709551616 → w = w' → (∃ y : Int, Ending.returned (.int .u64 x) = .returned (.int .u64 y) ∧ 0 ≤ y ∧ y < 18446744073709551616) ∧ w = w' := fun x w' hx hw => ⟨⟨x, rfl, hx⟩, hw⟩
  rcases Nat.eq_zero_or_pos L with h0 | h0
  · subst h0
    refine Calls.mono (R := fun e w' => e = .returned (.int .u64 0) ∧ w = w') ?_ (fun e w' ⟨he, hw⟩ => ⟨⟨0, he, by omega, by omega⟩, hw⟩)
    clear h hl hx hP
    go_enter Try.func19, Try.ntmps19
    go_wp2
    go_ret
    exact ⟨rfl, rfl⟩
  · have hm : -(L : Int) < n.tmod (L : Int) ∧ n.tmod (L : Int) < (L : Int) := by
      have h1 := Int.tmod_lt_of_pos n (show (0 : Int) < (L : Int) by omega)
      have h2 := Int.tmod_lt_of_pos (-n) (show (0 : Int) < (L : Int) by omega)
      rw [Int.neg_tmod] at h2
      omega
    have hz : ((L : Int) == 0) = false := beqF (by omega)
    obtain ⟨m, hme⟩ : ∃ m, n.tmod (L : Int) = m := ⟨_, rfl⟩
    have hms : n.tmod (L : Int) = m := hme
    rw [hme] at hm
    rcases Int.lt_or_le m 0 with hneg | hpos
    · obtain ⟨k, hk⟩ := Int.eq_ofNat_of_zero_le (show 0 ≤ m + L by omega)
      have hkl : k < ls.length := by omega
      obtain ⟨g, rfl, _, c, _⟩ := h.at_ (List.getElem?_eq_getElem hkl)
      have hxk := hx _ (List.getElem_mem hkl)
      refine Calls.mono (R := fun e w' => e = .returned (.int .u64 ls[k]) ∧ w = w') ?_ (fun e w' ⟨he, hw⟩ => ⟨⟨_, he, hxk⟩, hw⟩)
      generalize ls[k] = x at *
      have hkL : (k : Int) < (L : Int) := by omega
      clear h hl hx hP hme hxk hkl
      go_enter Try.func19, Try.ntmps19
      go_wp2
      go_ret
      exact ⟨rfl, rfl⟩
    · obtain ⟨k, hk⟩ := Int.eq_ofNat_of_zero_le hpos
      subst hk
      have hkl : k < ls.length := by omega
      obtain ⟨g, rfl, _, c, _⟩ := h.at_ (List.getElem?_eq_getElem hkl)
      have hxk := hx _ (List.getElem_mem hkl)
      refine Calls.mono (R := fun e w' => e = .returned (.int .u64 ls[k]) ∧ w = w') ?_ (fun e w' ⟨he, hw⟩ => ⟨⟨_, he, hxk⟩, hw⟩)
      generalize ls[k] = x at *
      have hkL : (k : Int) < (L : Int) := by omega
      clear h hl hx hP hme hxk hkl
      go_enter Try.func19, Try.ntmps19
      go_wp2
      go_ret
      exact ⟨rfl, rfl⟩

theorem infoHandle2 : (Try.prog.info? 31).map (fun i => (i.zero, i.size, i.bytes)) = some (some (.int .u64 0), 1, 8) := by kernel_rfl

/-- Another table without slots stays. -/
theorem NT.other {w0 w w' : World} {t u : Nat} {v : Value} {T U : HTbl} (hU : NT w0 w u (.slice none 0 0) U) (hT : NT w0 w t v T) (hm : Mod (Own t v) w w') (hne : u ≠ t) : NT w0 w' u (.slice none 0 0) U := by
  refine ⟨hU.tab.mod hm (fun x => ?_) (by simp [Value.ownBlock]), hU.mod.trans (hm.mono fun k _ hk => .inr (hk.elim (fun e => e ▸ hT.ht) (hT.hv k))), hU.ht, hU.hv⟩
  rcases x with x | x
  · exact hne x
  · exact row_ne hT.tab.row hU.tab.box (by decide) x

def TwoRel (w : World) (n : Int) (u j : Nat) (l : Value) (wr : World) : Prop := ∃ (T : HTbl) (tv : Value) (ls : List Int), NT w wr w.heap.size tv T ∧ NT w wr u (.slice none 0 0) ⟨n, 9, []⟩ ∧ IRow w wr 31 .u64 l ls ∧ (∀ x ∈ ls, 0 ≤ x ∧ x < 18446744073709551616) ∧ ls.length ≤ j

set_option maxRecDepth 100000 in
set_option maxHeartbeats 4000000 in
theorem two_in (a0 : Int) (s1 : Option Addr) (len1 cap1 : Nat) (z1 : List (List Int)) (w : World) (h1 : 1 ≤ a0 ∧ a0 ≤ 65536) (R : Recs w s1 len1 [some .i64, some .i64, some .i64, some .u64] z1) (hl : len1 ≤ 100) :
    Calls Try.prog 6 #[.int .i64 a0, .slice s1 len1 cap1] w fun e w' => e = .returned (.bool true) ∧ Below w.heap.size w w' := by
  have d100 : decide ((100 : Int) < (len1 : Int)) = false := ltF (by omega)
  have hc := new_ok w a0 9 h1.1 h1.2 (by omega) (by omega)
  obtain ⟨i0, hi0, hz0, hz1, hz2⟩ := info_parts infoHandle2
  have HI := Lib.hid (And.intro hi0 (And.intro hz0 (And.intro hz1 hz2)))
  have HR := Lib.hid R
  clear R hi0 hz0 hz1 hz2
  go_enter Try.func6, Try.ntmps6
  go_wp2_with fail
  refine hc.mono ?_
  rintro e w0 ⟨rfl, hT0, hM0⟩
  have hw0 : w.heap.size < w0.heap.size := hT0.lt
  have n0 := NT.new (Mod.refl _ w) hT0 hM0
  have hc2 := new_ok w0 a0 9 h1.1 h1.2 (by omega) (by omega)
  clear hT0 hM0 hc
  go_wp2_with fail
  refine hc2.mono ?_
  rintro e w1 ⟨rfl, hT1, hM1⟩
  have n1 : NT w w1 w.heap.size (.slice none 0 0) ⟨a0, 9, []⟩ := n0.step (n0.tab.mod hM1 (fun x => x) (fun _ _ x => x)) (hM1.mono fun _ _ x => x.elim) (.inl rfl)
  have n2 : NT w w1 w0.heap.size (.slice none 0 0) ⟨a0, 9, []⟩ := NT.new n0.mod hT1 hM1
  obtain ⟨u, hu⟩ : ∃ u, w0.heap.size = u := ⟨_, rfl⟩
  rw [hu] at n2 hw0
  have hst := Lib.hid (show TwoRel w a0 u 0 (.slice none 0 0) w1 from ⟨_, _, [], n1, n2, IRow.nil _ _ _ _, by simp, Nat.le_refl _⟩)
  have hun : u ≠ w.heap.size := by omega
  have HU := Lib.hid hun
  clear hT1 hM1 hc2 n0 n1 n2 hun hw0
  go_wp2_with fail
  clear hu
  go_loopw [9, 10] (fun l i wr => ∃ j : Nat, i = .int .i64 j ∧ j ≤ len1 ∧ TwoRel w a0 u j l wr) (fun _ i _ => len1 - (intOf i).toNat)
  case atStart => exact ⟨0, rfl, Nat.zero_le _, hst.out⟩
  case round =>
    obtain ⟨j, rfl, hj, T, tv, ls, hN, hU, hL, hx, hjl⟩ := hrel
    clear hst
    by_cases hlt : j < len1
    · obtain ⟨b, off, rfl, hb, hc⟩ := HR.out.cells (by omega)
      have hzj : z1[j]? = some (z1[j]'(by rw [HR.out.count]; exact hlt)) := List.getElem?_eq_getElem _
      obtain ⟨hrl, hro⟩ := HR.out.ok _ (List.mem_of_getElem? hzj)
      generalize z1[j]'(by rw [HR.out.count]; exact hlt) = r at *
      match r, hrl with
      | [d, n, a, h], _ =>
      have c0 := hN.mod.cell (hc j _ hzj 0 _ d rfl rfl) (fun x => x)
      have c1 := hN.mod.cell (hc j _ hzj 1 _ n rfl rfl) (fun x => x)
      have c2 := hN.mod.cell (hc j _ hzj 2 _ a rfl rfl) (fun x => x)
      have ha := bounds_i64 (hro 2 _ a rfl rfl)
      have hn := bounds_i64 (hro 1 _ n rfl rfl)
      have HC := Lib.hid (hc j _ hzj 1 _ n rfl rfl)
      simp only [List.length_cons, List.length_nil, Nat.add_zero, Nat.zero_add, Nat.reduceAdd, fv] at c0 c1 c2 HC
      clear hc hzj hro hb
      obtain ⟨sl, capl, rfl⟩ := hL.form
      obtain ⟨L, hLL⟩ : ∃ L, ls.length = L := ⟨_, rfl⟩
      rw [hLL] at hL hjl ⊢
      have HL := Lib.hid hLL
      clear hLL
      go_upto_block 2 with fail
      go_cut [9] (fun l wx => TwoRel w a0 u (j + 1) l wx)
      case first =>
        as_aux_lemma =>
          obtain ⟨hi0, hz0, hz1, hz2⟩ := HI.out
          have hdrop := Lib.hid (show TwoRel w a0 u (j + 1) (.slice sl L capl) wr from ⟨_, _, _, hN, hU, hL, hx, by rw [HL.out]; omega⟩)
          by_cases d1 : d = 1
          · subst d1
            rcases ho : T.open' a with ⟨hd, er, T'⟩
            have hc := hN.open_eq a ha.2 ho
            have hrr := HTbl.open_range hN.tab.ok a
            rw [ho] at hrr
            have HP := Lib.hid (And.intro hN (And.intro hU (And.intro hL hx)))
            have HRR := Lib.hid hrr
            clear hN hU hL hx ho hrr
            by_cases he : er = 0
            · subst he
              go_wp2_with fail
              refine hc.mono ?_
              rintro e w2 ⟨rfl, tv2, hN2, hM2⟩
              obtain ⟨hN, hU, hL, hx⟩ := HP.out
              have hU2 := hU.other hN hM2 HU.out
              have hL2 := hL.mod_tab hN.tab (by decide) (by decide) hM2
              have hown := hL2.own
              rw [HL.out] at hown
              have HQ := Lib.hid (And.intro hN2 (And.intro hU2 (And.intro hL2 hx)))
              clear hN hU hL hx hc HP hM2 hN2 hU2 hL2 c0 c1 c2
              go_wp2_with (at_builtin; refine wpList_append_cell w2 (by rfl) _ _ 29 rfl 31 i0 _ 8 Try.underlying29 hi0 hz0 hz1 hz2 rfl _ _ _ (by rfl) hown (.int .u64 hd) 31 _ (by rfl) (by simp) (by rfl) (by unfold maxLen; omega) (by omega) ?_)
              intro gg capg w3 hown3 hm3 hg3
              obtain ⟨hN2, hU2, hL2, hx⟩ := HQ.out
              rw [← HL.out] at hown3
              have hL3 := hL2.push hN2.mod.size hown3 hg3
              rw [HL.out] at hL3
              have hN3 := hN2.mod_row hL2 (by decide) (by decide) hm3
              have hU3 := hU2.mod_row hL2 (by decide) (by decide) hm3
              have hfin := Lib.hid (show TwoRel w a0 u (j + 1) _ w3 from ⟨_, _, _, hN3, hU3, hL3, by intro x hxm; rcases List.mem_append.1 hxm with h | h
                                                                                                     · exact hx x h
                                                                                                     · simp at h; subst h; exact HRR.out, by have := HL.out; simp; omega⟩)
              clear hN2 hU2 hL2 hx hL3 hN3 hU3 hown3 hm3 hg3 HQ hown
              go_wp2_with fail
              go_meet
              case rel => exact hfin.out
            · have heb : (er == 0) = false := beqF he
              go_wp2_with fail
              refine hc.mono ?_
              rintro e w2 ⟨rfl, tv2, hN2, hM2⟩
              obtain ⟨hN, hU, hL, hx⟩ := HP.out
              have hU2 := hU.other hN hM2 HU.out
              have hL2 := hL.mod_tab hN.tab (by decide) (by decide) hM2
              have hfin := Lib.hid (show TwoRel w a0 u (j + 1) (.slice sl L capl) w2 from ⟨_, _, _, hN2, hU2, hL2, hx, by rw [HL.out]; omega⟩)
              clear hN hU hL hx hc HP hM2 hN2 hU2 hL2
              go_wp2_with fail
              go_meet
              case rel => exact hfin.out
          have b1 : (d == 1) = false := beqF d1
          by_cases d4 : d = 4
          · subst d4
            have hc := nth_call hL HL.out (by omega) hx n hn
            have HP := Lib.hid (And.intro hN (And.intro hU (And.intro hL hx)))
            clear hN hU hL hx
            go_wp2_with fail
            refine hc.mono ?_
            rintro e w2 ⟨⟨x, rfl, x0, x1⟩, rfl⟩
            obtain ⟨hN, hU, hL, hx⟩ := HP.out
            have hc := hN.close_eq x x0 x1 (er := (T.close x).1) (T' := (T.close x).2) rfl
            clear hN hU hL hx
            go_wp2_with fail
            refine hc.mono ?_
            rintro e w2 ⟨rfl, hN2, hM2⟩
            obtain ⟨hN, hU, hL, hx⟩ := HP.out
            have hU2 := hU.other hN hM2 HU.out
            have hL2 := hL.mod_tab hN.tab (by decide) (by decide) hM2
            have hfin := Lib.hid (show TwoRel w a0 u (j + 1) (.slice sl L capl) w2 from ⟨_, _, _, hN2, hU2, hL2, hx, by rw [HL.out]; omega⟩)
            clear hN hU hL hx hc HP hM2 hN2 hU2 hL2
            go_wp2_with fail
            go_meet
            case rel => exact hfin.out
          have b4 : (d == 4) = false := beqF d4
          clear hN hU hL hx
          go_wp2_with fail
          go_meet
          case rel => exact hdrop.out
      case rest =>
        as_aux_lemma =>
          obtain ⟨T2, tv2, ls2, hN2, hU2, hL2, hx2, hj2⟩ := hcut
          obtain ⟨sl2, capl2, rfl⟩ := hL2.form
          have cN := hN2.mod.cell HC.out (fun x => x)
          have hc := nth_call hL2 rfl (by omega) hx2 n hn
          have hfin := Lib.hid (And.intro hU2 (show TwoRel w a0 u (j + 1) (.slice sl2 ls2.length capl2) wc from ⟨_, _, _, hN2, hU2, hL2, hx2, hj2⟩))
          have HFF := Lib.hid (fun (w' : World) (hm : Mod (fun _ => False) wc w') => (show TwoRel w a0 u (j + 1) (.slice sl2 ls2.length capl2) w' from ⟨_, _, _, hN2.step (hN2.tab.mod hm (fun x => x) (fun _ _ x => x)) (hm.mono fun _ _ x => x.elim) (.inl rfl), hU2.step (hU2.tab.mod hm (fun x => x) (fun _ _ x => x)) (hm.mono fun _ _ x => x.elim) (.inl rfl), hL2.mod hm (fun _ _ x => x), hx2, hj2⟩))
          clear hN2 hU2 hL2 hx2 hN hU hL hx c0 c1 c2
          go_wp2_with fail
          refine hc.mono ?_
          rintro e w2 ⟨⟨x, rfl, x0, x1⟩, rfl⟩
          have hd : (⟨a0, 9, []⟩ : HTbl).at' x = (0, 7) := by unfold HTbl.at' HTbl.okB; simp
          have k1 := hfin.out.1.at_eq x x0 x1 hd
          have k2 := hfin.out.1.live_eq
          have k3 := fun {w' v'} (h : NT w w' u v' ⟨a0, 9, []⟩) => h.used_eq
          rw [show (⟨a0, 9, []⟩ : HTbl).live.length = 0 from rfl] at k2
          have HK := Lib.hid (And.intro k2 hfin.out.1)
          clear hc k2 k3 hd
          go_wp2_with fail
          refine k1.mono ?_
          rintro e w2 ⟨rfl, rfl⟩
          have k2 := HK.out.1
          clear k1
          go_wp2_with fail
          refine k2.mono ?_
          rintro e w2 ⟨sq, capq, rfl, hU3, _, hM3⟩
          have k3 := hU3.used_eq
          rw [show (⟨a0, 9, []⟩ : HTbl).l.length = 0 from rfl] at k3
          have hf := Lib.hid (HFF.out w2 hM3)
          clear k2 hU3 hM3
          go_wp2_with fail
          refine k3.mono ?_
          rintro e w3 ⟨rfl, rfl⟩
          clear k3
          go_wp2
          go_roundw
          case rel => exact ⟨j + 1, by go_num, by omega, hf.out⟩
          case measure => simp [intOf]; omega
    · have hje : j = len1 := by omega
      subst hje
      clear HR hL hx
      go_wp2_with fail
      refine (awake_call _).mono ?_
      rintro e w3 ⟨rfl, hm⟩
      go_wp2
      go_ret
      exact ⟨rfl, (hN.mod.trans' hm).below _ (Nat.le_refl _) (fun _ _ x => x)⟩

set_option maxRecDepth 100000 in
theorem handleTwo_walk (a0 : Int) (s1 : Option Addr) (len1 cap1 : Nat) (z1 : List (List Int)) (w : World) (_w0 : (Lit.int .i64 a0).wf = true) (R : Recs w s1 len1 [some .i64, some .i64, some .i64, some .u64] z1) :
    Calls Try.prog 6 #[.int .i64 a0, .slice s1 len1 cap1] w fun e w' => e = .returned (.bool true) ∧ Below w.heap.size w w' := by
  have ha := (awake_call w).mono (R' := fun e w' => e = .returned (.bool true) ∧ Below w.heap.size w w') fun e w' ⟨he, hm⟩ => ⟨he, hm.below _ (Nat.le_refl _) (fun _ _ x => x)⟩
  by_cases hl : len1 ≤ 100
  · by_cases h : 1 ≤ a0 ∧ a0 ≤ 65536
    · exact two_in a0 s1 len1 cap1 z1 w h R hl
    · have hc := new_no w a0 9 (by omega)
      have d100 : decide ((100 : Int) < (len1 : Int)) = false := ltF (by omega)
      clear h R
      go_enter Try.func6, Try.ntmps6
      go_wp2_with (first | ((with_reducible refine hc.mono ?_); rintro e w' ⟨rfl, rfl⟩) | ((with_reducible refine ha.mono ?_); rintro e w' ⟨rfl, hb⟩))
      go_ret
      exact ⟨rfl, hb⟩
  · have d100 : decide ((100 : Int) < (len1 : Int)) = true := ltT (by omega)
    clear R
    go_enter Try.func6, Try.ntmps6
    go_wp2_with ((with_reducible refine ha.mono ?_); rintro e w' ⟨rfl, hb⟩)
    go_ret
    exact ⟨rfl, hb⟩
end Go.Proofs.Ytbcecgbnnpbjbaa
