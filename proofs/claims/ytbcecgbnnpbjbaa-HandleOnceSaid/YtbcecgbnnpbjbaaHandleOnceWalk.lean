/- HandleOnce, walked. No condition. -/
import Derived.Test.YtbcecgbnnpbjbaaHandleRows
import Derived.Test.YtbcecgbnnpbjbaaHandleOnceSpec
import Derived.Test.YtbcecgbnnpbjbaaArgs
import Derived.Deep.CutBlock
import Derived.Deep.RegionWith
import Derived.Deep.DeepCutAuto
namespace Go.Proofs.Ytbcecgbnnpbjbaa
open Go Go.RowKit

theorem infoInt : (Try.prog.info? 3).map (fun i => (i.zero, i.size, i.bytes)) = some (some (.int .i64 0), 1, 8) := by kernel_rfl

/-- The place in a row, counted round. -/
theorem round_place (n : Int) (L : Nat) (h0 : 0 < L) (h1 : L ≤ 1000) : ∃ k : Nat, k < L ∧ (wrap64 (n.tmod (L : Int) + (L : Int))).tmod (L : Int) = (k : Int) := by
  have hb : -(L : Int) < n.tmod (L : Int) ∧ n.tmod (L : Int) < (L : Int) := by
    have := Int.tmod_lt_of_pos n (show (0 : Int) < (L : Int) by omega)
    have h2 := Int.tmod_lt_of_pos (-n) (show (0 : Int) < (L : Int) by omega)
    rw [Int.neg_tmod] at h2
    omega
  generalize n.tmod (L : Int) = m at *
  have hw : wrap64 (m + (L : Int)) = m + L := by unfold wrap64; omega
  rw [hw, Int.tmod_eq_emod_of_nonneg (by omega)]
  have h3 := Int.emod_nonneg (m + (L : Int)) (show (L : Int) ≠ 0 by omega)
  have h4 := Int.emod_lt_of_pos (m + (L : Int)) (show (0 : Int) < (L : Int) by omega)
  exact ⟨((m + (L : Int)) % (L : Int)).toNat, by omega, by omega⟩

/-- A counter up to L. -/
def Ctr (L : Nat) (i : Value) : Prop := ∃ q : Nat, q ≤ L ∧ i = .int .i64 q

def OnceRel (w : World) (j : Nat) (l at_ : Value) (wr : World) : Prop := ∃ (T : HTbl) (tv : Value) (ls ad : List Int), NT w wr w.heap.size tv T ∧ IRow w wr 31 .u64 l ls ∧ IRow w wr 3 .i64 at_ ad ∧ HTbl.OnceInv T ls ad ∧ ls.length ≤ j

set_option maxRecDepth 100000 in
set_option maxHeartbeats 4000000 in
theorem once_in (a0 a1 : Int) (s2 : Option Addr) (len2 cap2 : Nat) (z2 : List (List Int)) (w : World) (h1 : 1 ≤ a0 ∧ a0 ≤ 65536 ∧ 1 ≤ a1) (h2 : a1 ≤ 4294967295) (R : Recs w s2 len2 [some .i64, some .i64, some .i64, some .u64] z2) (hl : len2 ≤ 200) :
    Calls Try.prog 4 #[.int .i64 a0, .int .u32 a1, .slice s2 len2 cap2] w fun e w' => e = .returned (.bool true) ∧ Below w.heap.size w w' := by
  have d200 : decide ((200 : Int) < (len2 : Int)) = false := ltF (by omega)
  go_enter Try.func4, Try.ntmps4
  go_wp2_with fail
  refine (new_ok w a0 a1 h1.1 h1.2.1 h1.2.2 h2).mono ?_
  rintro e w0 ⟨rfl, hT0, hM0⟩
  have h0 := NT.new (Mod.refl _ w) hT0 hM0
  have HR := Lib.hid R
  clear hT0 hM0 R h1 h2
  go_wp2_with fail
  go_loopw [9, 10, 11] (fun l at_ i wr => ∃ (j : Nat), i = .int .i64 j ∧ j ≤ len2 ∧ OnceRel w j l at_ wr) (fun _ _ i _ => len2 - (intOf i).toNat)
  case atStart => exact ⟨0, rfl, Nat.zero_le _, _, _, [], [], h0, IRow.nil _ _ _ _, IRow.nil _ _ _ _, HTbl.OnceInv.start _, Nat.le_refl _⟩
  case round =>
    obtain ⟨j, rfl, hj, T, tv, ls, ad, hN, hL, hA, hI, hjl⟩ := hrel
    clear h0
    by_cases hlt : j < len2
    · obtain ⟨b, off, rfl, hb, hc⟩ := HR.out.cells (by omega)
      have hzj : z2[j]? = some (z2[j]'(by rw [HR.out.count]; exact hlt)) := List.getElem?_eq_getElem _
      obtain ⟨hrl, hro⟩ := HR.out.ok _ (List.mem_of_getElem? hzj)
      generalize z2[j]'(by rw [HR.out.count]; exact hlt) = r at *
      match r, hrl with
      | [d, n, a, h], _ =>
      have c0 := hN.mod.cell (hc j _ hzj 0 _ d rfl rfl) (fun x => x)
      have c1 := hN.mod.cell (hc j _ hzj 1 _ n rfl rfl) (fun x => x)
      have c2 := hN.mod.cell (hc j _ hzj 2 _ a rfl rfl) (fun x => x)
      have c3 := hN.mod.cell (hc j _ hzj 3 _ h rfl rfl) (fun x => x)
      have ha : fok (some .i64) a := hro 2 _ a rfl rfl
      have hn : fok (some .i64) n := hro 1 _ n rfl rfl
      simp only [List.length_cons, List.length_nil, Nat.add_zero, Nat.zero_add, Nat.reduceAdd, fv] at c0 c1 c2 c3
      clear hc hzj hro hb
      obtain ⟨sl, capl, rfl⟩ := hL.form
      obtain ⟨sa, capa, rfl⟩ := hA.form_of hI.len
      have hal := Lib.hid hI.len
      have HX := Lib.hid (And.intro hN (And.intro hL (And.intro hA (And.intro hI (And.intro ha hn)))))
      clear hN hL hA hI ha hn
      obtain ⟨i0, hi0, hz0, hz1, hz2⟩ := info_parts infoHandle
      obtain ⟨i3, hi3, hy0, hy1, hy2⟩ := info_parts infoInt
      have hK : ls.length = 0 ∨ 0 < ls.length ∧ ∃ k : Nat, k < ls.length ∧ (wrap64 (n.tmod (ls.length : Int) + (ls.length : Int))).tmod (ls.length : Int) = (k : Int) := by
        rcases Nat.eq_zero_or_pos ls.length with h | h
        · exact .inl h
        · exact .inr ⟨h, round_place n _ h (by omega)⟩
      rcases hK with hz | ⟨hz, k, hk, hke⟩
      · obtain rfl : ls = [] := List.eq_nil_of_length_eq_zero hz
        clear hz
        obtain rfl : ad = [] := List.eq_nil_of_length_eq_zero (by simpa using hal.out)
        clear hal
        simp only [List.length_nil] at HX hjl
        go_upto_block 2 with fail
        go_cut [9, 10] (fun l at_ wx => OnceRel w (j + 1) l at_ wx)
        case first =>
          as_aux_lemma =>
            obtain ⟨hN0, hL0, hA0, hI, ha, hn⟩ := HX.out
            have hN := hN0.alloc (.cells #[.int .i64 d, .int .i64 n, .int .i64 a, .int .u64 h] 39)
            have hL := hL0.alloc (.cells #[.int .i64 d, .int .i64 n, .int .i64 a, .int .u64 h] 39)
            have hA := hA0.alloc (.cells #[.int .i64 d, .int .i64 n, .int .i64 a, .int .u64 h] 39)
            have hO : (wr.alloc (.cells #[.int .i64 d, .int .i64 n, .int .i64 a, .int .u64 h] 39)).heap[wr.heap.size]? = some (.cells #[.int .i64 d, .int .i64 n, .int .i64 a, .int .u64 h] 39 (0, 0)) := heap_alloc_new wr _
            have hab := bounds_i64 ha
            clear HX hN0 hL0 hA0 hn ha c0 c1 c2 c3
            by_cases d1 : d = 1
            · subst d1
              have HP := Lib.hid (And.intro hN (And.intro hL (And.intro hA (And.intro hO hI))))
              rcases ho : T.open' a with ⟨hd, er, T'⟩
              have hc := hN.open_eq a hab.2 ho
              by_cases he : er = 0
              · subst he
                have hop := hI.opened hN.tab.ok hab.2 ho
                have hrr := HTbl.open_range hN.tab.ok a
                rw [ho] at hrr
                have HQ := Lib.hid (And.intro hop hrr)
                clear hN hL hA hI hO ho hop hrr
                go_wp2_with fail
                refine hc.mono ?_
                rintro e w1 ⟨rfl, tv1, hN1, hM1⟩
                obtain ⟨hN, hL, hA, hO, hI⟩ := HP.out
                have hL1 := hL.mod_tab hN.tab (by decide) (by decide) hM1
                have hA1 := hA.mod_tab hN.tab (by decide) (by decide) hM1
                have hO1 := hN.tab.keep hM1 hO (by decide) (by decide)
                have HS := Lib.hid (And.intro hN1 (And.intro hL1 (And.intro hA1 hO1)))
                clear hN hL hA hO hI hc HP hM1 hN1 hL1 hA1 hO1
                go_wp2_with fail
                go_loop [16] (fun i => i = .int .i64 0) (fun _ => 0)
                case atStart => rfl
                case round =>
                  subst hrel
                  have hqe : True := trivial
                  by_cases hql : False
                  · exact hql.elim
                  · have hqe : True := trivial
                    obtain ⟨hN1, hL1, hA1, hO1⟩ := HS.out
                    clear HS
                    have hownE : w1.ownsRow 0 31 1 (.slice sl 0 capl) 0 [] := hL1.own
                    go_wp2_with (at_builtin; refine wpList_append_cell w1 (by rfl) _ _ 29 rfl 31 i0 _ 8 Try.underlying29 hi0 hz0 hz1 hz2 rfl _ _ _ (by rfl) hownE (.int .u64 hd) 31 _ (by rfl) (by simp) (by rfl) (by unfold maxLen; omega) (by omega) ?_)
                    intro gg capg w2 hown2 hm2 hg2
                    have hL2 := hL1.push hN1.mod.size hown2 hg2
                    have hA2 := hA1.mod_row hL1.own (by decide) hm2
                    have hN2 := hN1.mod_row hL1 (by decide) (by decide) hm2
                    have hO2 := hL1.keep hm2 hO1 (by decide)
                    have cA : w2.cell? ⟨wr.heap.size, 2, none⟩ = some (.int .i64 a) := by rw [cell_at hO2]; rfl
                    have hown : w2.ownsRow 0 3 1 (.slice sa 0 capa) 0 [] := hA2.own
                    have HS := Lib.hid (And.intro hN2 (And.intro hL2 hA2))
                    clear hN1 hL1 hA1 hO1 hN2 hL2 hA2 hO2 hown2 hm2 hg2
                    go_wp2_with (at_builtin; refine wpList_append_cell w2 (by rfl) _ _ 22 rfl 3 i3 _ 8 Try.underlying22 hi3 hy0 hy1 hy2 rfl _ _ _ (by rfl) hown (.int .i64 a) 3 _ (by rfl) (by simp) (by rfl) (by unfold maxLen; omega) (by omega) ?_)
                    intro gh caph w3 hown3 hm3 hg3
                    obtain ⟨hN2, hL2, hA2⟩ := HS.out
                    have hN3 := hN2.mod_row hA2 (by decide) (by decide) hm3
                    have hL3 := hL2.mod_row hA2.own (by decide) hm3
                    have hA3 := hA2.push hN2.mod.size hown3 hg3
                    have hfin := Lib.hid (show OnceRel w (j + 1) _ _ w3 from ⟨_, _, _, _, hN3, hL3, hA3, HQ.out.1.2, by simp⟩)
                    clear hN2 hL2 hA2 hN3 hL3 hA3 hown3 hm3 hg3 HS HQ hown
                    go_wp2_with fail
                    go_meet
                    case rel => exact hfin.out
              · obtain ⟨hTT, _⟩ := HTbl.open_err ho he
                subst hTT
                have heb : (er == 0) = false := beqF he
                have heb2 : (er != 0) = true := bneT he
                clear hN hL hA hO hI ho
                go_wp2_with fail
                refine hc.mono ?_
                rintro e w1 ⟨rfl, tv1, hN1, hM1⟩
                obtain ⟨hN, hL, hA, hO, hI⟩ := HP.out
                have hL1 := hL.mod_tab hN.tab (by decide) (by decide) hM1
                have hA1 := hA.mod_tab hN.tab (by decide) (by decide) hM1
                have hfin := Lib.hid (show OnceRel w (j + 1) _ _ w1 from ⟨_, _, _, _, hN1, hL1, hA1, hI, by simp⟩)
                clear hN hL hA hO hI hc HP hM1 hN1 hL1 hA1
                go_wp2
                go_roundw
                case rel => exact ⟨j + 1, by go_num, by omega, hfin.out⟩
                case measure => simp [intOf]; omega
            have b1 : (d == 1) = false := beqF d1
            have b3 : (d == 3) = true ∨ (d == 3) = false := by cases (d == 3) <;> simp
            have b4 : (d == 4) = true ∨ (d == 4) = false := by cases (d == 4) <;> simp
            have hfin := Lib.hid (show OnceRel w (j + 1) _ _ (wr.alloc (.cells #[.int .i64 d, .int .i64 n, .int .i64 a, .int .u64 h] 39)) from ⟨_, _, _, _, hN, hL, hA, hI, by simp⟩)
            clear hN hL hA hI hO
            rcases b3 with b3 | b3
            all_goals
              rcases b4 with b4 | b4
              all_goals
                go_wp2_with fail
                go_meet
                case rel => exact hfin.out
        case rest =>
          as_aux_lemma =>
            obtain ⟨T2, tv2, ls2, ad2, hN2, hL2, hA2, hI2, hj2⟩ := hcut
            obtain ⟨sl2, capl2, rfl⟩ := hL2.form
            obtain ⟨sa2, capa2, rfl⟩ := hA2.form_of hI2.len
            have hal2 := Lib.hid hI2.len
            have HX2 := Lib.hid (And.intro hN2 (And.intro hL2 (And.intro hA2 hI2)))
            clear hN2 hL2 hA2 hI2 HX c0 c1 c2 c3 hi0 hi3 hz0 hz1 hz2 hy0 hy1 hy2
            go_wp2_with fail
            go_loop [19] (fun i => Ctr ls2.length i) (fun i => ls2.length - (intOf i).toNat)
            case atStart => exact ⟨0, Nat.zero_le _, rfl⟩
            case round =>
              obtain ⟨q, hq, rfl⟩ := hrel
              by_cases hql : q < ls2.length
              · obtain ⟨hN2, hL2, hA2, hI2⟩ := HX2.out
                have hx := List.getElem?_eq_getElem hql
                have hql2 : q < ad2.length := by rw [hal2.out]; exact hql
                have hy := List.getElem?_eq_getElem hql2
                obtain ⟨g1, rfl, _, d1, _⟩ := hL2.at_ hx
                obtain ⟨g2, rfl, _, d2, _⟩ := hA2.at_ hy
                obtain ⟨_, _, _, x0, x1, _⟩ := hI2.each q _ _ hx hy
                have hat0 := hI2.at_eq hx hy
                generalize ls2[q] = x at *
                generalize ad2[q] = y at *
                clear hx hy HX2
                by_cases c : 0 ≤ y
                · rw [if_pos c] at hat0
                  have hat := hN2.at_eq x x0 x1 hat0
                  have cb : decide (y < 0) = false := ltF c
                  have cy : (y != y) = false := by simp
                  clear hN2 hL2 hA2 hI2 hat0 x0 x1
                  go_wp2_with ((with_reducible refine hat.mono ?_); rintro e w' ⟨rfl, rfl⟩)
                  go_round
                  case rel => exact ⟨q + 1, hql, by go_num⟩
                  case measure => simp [intOf]; omega
                · rw [if_neg c] at hat0
                  have hat := hN2.at_eq x x0 x1 hat0
                  have cb : decide (y < 0) = true := ltT (by omega)
                  have cc : decide (0 ≤ y) = false := leF (by omega)
                  clear hN2 hL2 hA2 hI2 hat0 x0 x1
                  go_wp2_with ((with_reducible refine hat.mono ?_); rintro e w' ⟨rfl, rfl⟩)
                  go_round
                  case rel => exact ⟨q + 1, hql, by go_num⟩
                  case measure => simp [intOf]; omega
              · have hqe : q = ls2.length := by omega
                obtain ⟨hN2, hL2, hA2, hI2⟩ := HX2.out
                have hfin := Lib.hid (show OnceRel w (j + 1) (.slice sl2 ls2.length capl2) (.slice sa2 ls2.length capa2) wc from ⟨T2, tv2, ls2, ad2, hN2, hL2, hA2, hI2, hj2⟩)
                clear HX2 hN2 hL2 hA2 hI2
                subst hqe
                go_wp2
                go_roundw
                case rel => exact ⟨j + 1, by go_num, by omega, hfin.out⟩
                case measure => simp [intOf]; omega
      · go_upto_block 2 with fail
        go_cut [9, 10] (fun l at_ wx => OnceRel w (j + 1) l at_ wx)
        case first =>
          as_aux_lemma =>
            obtain ⟨hN0, hL0, hA0, hI, ha, hn⟩ := HX.out
            have hN := hN0.alloc (.cells #[.int .i64 d, .int .i64 n, .int .i64 a, .int .u64 h] 39)
            have hL := hL0.alloc (.cells #[.int .i64 d, .int .i64 n, .int .i64 a, .int .u64 h] 39)
            have hA := hA0.alloc (.cells #[.int .i64 d, .int .i64 n, .int .i64 a, .int .u64 h] 39)
            have hO : (wr.alloc (.cells #[.int .i64 d, .int .i64 n, .int .i64 a, .int .u64 h] 39)).heap[wr.heap.size]? = some (.cells #[.int .i64 d, .int .i64 n, .int .i64 a, .int .u64 h] 39 (0, 0)) := heap_alloc_new wr _
            have hab := bounds_i64 ha
            clear HX hN0 hL0 hA0 hn ha c0 c1 c2 c3
            by_cases d1 : d = 1
            · subst d1
              have HP := Lib.hid (And.intro hN (And.intro hL (And.intro hA (And.intro hO hI))))
              rcases ho : T.open' a with ⟨hd, er, T'⟩
              have hc := hN.open_eq a hab.2 ho
              by_cases he : er = 0
              · subst he
                have hop := hI.opened hN.tab.ok hab.2 ho
                have hrr := HTbl.open_range hN.tab.ok a
                rw [ho] at hrr
                have HQ := Lib.hid (And.intro hop hrr)
                clear hN hL hA hI hO ho hop hrr
                go_wp2_with fail
                refine hc.mono ?_
                rintro e w1 ⟨rfl, tv1, hN1, hM1⟩
                obtain ⟨hN, hL, hA, hO, hI⟩ := HP.out
                have hL1 := hL.mod_tab hN.tab (by decide) (by decide) hM1
                have hA1 := hA.mod_tab hN.tab (by decide) (by decide) hM1
                have hO1 := hN.tab.keep hM1 hO (by decide) (by decide)
                have hll := Lib.hid hI.len
                have HS := Lib.hid (And.intro hN1 (And.intro hL1 (And.intro hA1 hO1)))
                clear hN hL hA hO hI hc HP hM1 hN1 hL1 hA1 hO1
                go_wp2_with fail
                go_loop [16] (fun i => Ctr ls.length i) (fun i => ls.length - (intOf i).toNat)
                case atStart => exact ⟨0, Nat.zero_le _, rfl⟩
                case round =>
                  obtain ⟨q, hq, rfl⟩ := hrel
                  by_cases hql : q < ls.length
                  · obtain ⟨hN1, hL1, hA1, hO1⟩ := HS.out
                    have hx := List.getElem?_eq_getElem hql
                    obtain ⟨g1, rfl, _, d1, _⟩ := hL1.at_ hx
                    have hxn : (ls[q] == hd) = false := beqF (HQ.out.1.1 _ (List.getElem_mem hql))
                    generalize ls[q] = x at *
                    clear hN1 hL1 hA1 hO1 HS hx HQ
                    go_wp2
                    go_round
                    case rel => exact ⟨q + 1, hql, by go_num⟩
                    case measure => simp [intOf]; omega
                  · have hqe : q = ls.length := by omega
                    obtain ⟨hN1, hL1, hA1, hO1⟩ := HS.out
                    clear HS
                    subst hqe
                    go_wp2_with (at_builtin; refine wpList_append_cell w1 (by rfl) _ _ 29 rfl 31 i0 _ 8 Try.underlying29 hi0 hz0 hz1 hz2 rfl _ _ _ (by rfl) hL1.own (.int .u64 hd) 31 _ (by rfl) (by simp) (by rfl) (by unfold maxLen; omega) (by omega) ?_)
                    intro gg capg w2 hown2 hm2 hg2
                    have hL2 := hL1.push hN1.mod.size hown2 hg2
                    have hA2 := hA1.mod_row hL1.own (by decide) hm2
                    have hN2 := hN1.mod_row hL1 (by decide) (by decide) hm2
                    have hO2 := hL1.keep hm2 hO1 (by decide)
                    have cA : w2.cell? ⟨wr.heap.size, 2, none⟩ = some (.int .i64 a) := by rw [cell_at hO2]; rfl
                    have hown := hA2.own
                    rw [hll.out] at hown
                    have HS := Lib.hid (And.intro hN2 (And.intro hL2 hA2))
                    clear hN1 hL1 hA1 hO1 hN2 hL2 hA2 hO2 hown2 hm2 hg2
                    go_wp2_with (at_builtin; refine wpList_append_cell w2 (by rfl) _ _ 22 rfl 3 i3 _ 8 Try.underlying22 hi3 hy0 hy1 hy2 rfl _ _ _ (by rfl) hown (.int .i64 a) 3 _ (by rfl) (by simp) (by rfl) (by unfold maxLen; omega) (by omega) ?_)
                    intro gh caph w3 hown3 hm3 hg3
                    obtain ⟨hN2, hL2, hA2⟩ := HS.out
                    have hN3 := hN2.mod_row hA2 (by decide) (by decide) hm3
                    have hL3 := hL2.mod_row hA2.own (by decide) hm3
                    rw [← hll.out] at hown3
                    have hA3 := hA2.push hN2.mod.size hown3 hg3
                    rw [hll.out] at hA3
                    have hfin := Lib.hid (show OnceRel w (j + 1) _ _ w3 from ⟨_, _, _, _, hN3, hL3, hA3, HQ.out.1.2, by simp; omega⟩)
                    clear hN2 hL2 hA2 hN3 hL3 hA3 hown3 hm3 hg3 HS HQ hown
                    go_wp2_with fail
                    go_meet
                    case rel => exact hfin.out
              · obtain ⟨hTT, _⟩ := HTbl.open_err ho he
                subst hTT
                have heb : (er == 0) = false := beqF he
                have heb2 : (er != 0) = true := bneT he
                clear hN hL hA hO hI ho
                go_wp2_with fail
                refine hc.mono ?_
                rintro e w1 ⟨rfl, tv1, hN1, hM1⟩
                obtain ⟨hN, hL, hA, hO, hI⟩ := HP.out
                have hL1 := hL.mod_tab hN.tab (by decide) (by decide) hM1
                have hA1 := hA.mod_tab hN.tab (by decide) (by decide) hM1
                have hfin := Lib.hid (show OnceRel w (j + 1) _ _ w1 from ⟨_, _, _, _, hN1, hL1, hA1, hI, by omega⟩)
                clear hN hL hA hO hI hc HP hM1 hN1 hL1 hA1
                go_wp2
                go_roundw
                case rel => exact ⟨j + 1, by go_num, by omega, hfin.out⟩
                case measure => simp [intOf]; omega
            have hkx := List.getElem?_eq_getElem hk
            have hka : k < ad.length := by rw [hal.out]; exact hk
            have hky := List.getElem?_eq_getElem hka
            obtain ⟨g1, rfl, _, e1, _⟩ := hL.at_ hkx
            obtain ⟨g2, rfl, _, e2, f2⟩ := hA.at_ hky
            have f2 := f2 k
            obtain ⟨_, _, _, x0, x1, _⟩ := hI.each k _ _ hkx hky
            have b1 : (d == 1) = false := beqF d1
            by_cases d3 : d = 3
            · subst d3
              have hmv := hI.moved hkx hky a hab.2
              have hc := hN.drew.move_eq ls[k] a x0 x1 hab.2 (er := (T.move ls[k] a).1) (T' := (T.move ls[k] a).2) rfl
              have HP := Lib.hid (And.intro hN (And.intro hL (And.intro hA (And.intro hO (And.intro hI hky)))))
              generalize ls[k] = x at *
              generalize ad[k] = y at *
              clear hN hL hA hI hO hkx hky
              rcases hmv with ⟨y0, a0', er0, hI'⟩ | ⟨hno, er1, hT'⟩
              · rw [er0] at hc
                have b2 : decide (0 ≤ y) = true := leT y0
                have b3 : decide (0 ≤ a) = true := leT a0'
                have HQ := Lib.hid hI'
                clear hI' er0
                go_wp2_with fail
                go_region_with ((with_reducible refine hc.mono ?_); rintro e w1 ⟨rfl, hN1, hM1⟩)
                all_goals
                  obtain ⟨hN, hL, hA, hO, hI, hky⟩ := HP.out
                  have hL1 := hL.drew.mod_tab hN.drew.tab (by decide) (by decide) hM1
                  have hA1 := hA.drew.mod_tab hN.drew.tab (by decide) (by decide) hM1
                  have hO1 := hN.drew.tab.keep hM1 hO (by decide) (by decide)
                  have cA : w1.cell? ⟨wr.heap.size, 2, none⟩ = some (.int .i64 a) := by rw [cell_at hO1]; rfl
                  obtain ⟨g3, hg3, _, e3, f3⟩ := hA1.at_ hky
                  simp only [Option.some.injEq, Addr.mk.injEq, and_true] at hg3
                  subst hg3
                  have f3 := f3 k
                  have hfin := Lib.hid (show OnceRel w (j + 1) _ _ (w1.setCell ⟨g2, k, none⟩ (.int .i64 a)) from ⟨_, _, _, _, hN1.setCell hA1 (by decide) (by decide) k _, hL1.setCell hA1 (by decide) k _, hA1.set k a, HQ.out, by omega⟩)
                  clear hN hL hA hO hI hky hN1 hM1 hL1 hA1 hO1 HQ HP hc e1 e2 f2
                  go_wp2_with fail
                  go_meet
                  case rel => exact hfin.out
              · rw [hT'] at hc
                have ber : ((T.move x a).1 == 0) = false := beqF er1
                generalize (T.move x a).1 = er at *
                clear hT' er1
                have hb : (decide (0 ≤ y) = true ∧ decide (0 ≤ a) = false) ∨ decide (0 ≤ y) = false := by
                  rcases Int.lt_or_le y 0 with c | c
                  · exact .inr (leF c)
                  · exact .inl ⟨leT c, leF (by omega)⟩
                rcases hb with ⟨b2, b3⟩ | b2
                all_goals
                  clear hno
                  go_wp2_with fail
                  go_region_with ((with_reducible refine hc.mono ?_); rintro e w1 ⟨rfl, hN1, hM1⟩)
                  all_goals
                    obtain ⟨hN, hL, hA, hO, hI, hky⟩ := HP.out
                    have hL1 := hL.drew.mod_tab hN.drew.tab (by decide) (by decide) hM1
                    have hA1 := hA.drew.mod_tab hN.drew.tab (by decide) (by decide) hM1
                    have hO1 := hN.drew.tab.keep hM1 hO (by decide) (by decide)
                    have cA : w1.cell? ⟨wr.heap.size, 2, none⟩ = some (.int .i64 a) := by rw [cell_at hO1]; rfl
                    obtain ⟨g3, hg3, _, e3, f3⟩ := hA1.at_ hky
                    simp only [Option.some.injEq, Addr.mk.injEq, and_true] at hg3
                    subst hg3
                    have hfin := Lib.hid (show OnceRel w (j + 1) _ _ w1 from ⟨_, _, _, _, hN1, hL1, hA1, hI, by omega⟩)
                    clear hN hL hA hO hI hky hN1 hM1 hL1 hA1 hO1 HP hc e1 e2 f2 f3
                    go_wp2_with fail
                    go_meet
                    case rel => exact hfin.out
            have b3 : (d == 3) = false := beqF d3
            by_cases d4 : d = 4
            · subst d4
              have hcl := hI.closed hkx hky
              have hc := hN.close_eq ls[k] x0 x1 (er := (T.close ls[k]).1) (T' := (T.close ls[k]).2) rfl
              have HP := Lib.hid (And.intro hN (And.intro hL (And.intro hA (And.intro hO (And.intro hI hky)))))
              generalize ls[k] = x at *
              generalize ad[k] = y at *
              clear hN hL hA hI hO hkx hky
              have HQ := Lib.hid hcl.1
              have hb : ((T.close x).1 == 0) = decide (0 ≤ y) := by
                rcases hcl.2 with ⟨c, e⟩ | ⟨c, e⟩
                · rw [e, leT c]; rfl
                · rw [beqF e, leF c]
              have hb2 : (decide (0 ≤ y) = true) ∨ (decide (0 ≤ y) = false) := by cases decide (0 ≤ y) <;> simp
              generalize (T.close x).1 = er at *
              clear hcl
              rcases hb2 with b2 | b2
              all_goals
                rw [b2] at hb
                go_wp2_with fail
                refine hc.mono ?_
                rintro e w1 ⟨rfl, hN1, hM1⟩
                obtain ⟨hN, hL, hA, hO, hI, hky⟩ := HP.out
                have hL1 := hL.mod_tab hN.tab (by decide) (by decide) hM1
                have hA1 := hA.mod_tab hN.tab (by decide) (by decide) hM1
                obtain ⟨g3, hg3, _, e3, f3⟩ := hA1.at_ hky
                simp only [Option.some.injEq, Addr.mk.injEq, and_true] at hg3
                subst hg3
                have f3 := f3 k
                have hfin := Lib.hid (show OnceRel w (j + 1) _ _ (w1.setCell ⟨g2, k, none⟩ (.int .i64 (-1))) from ⟨_, _, _, _, hN1.setCell hA1 (by decide) (by decide) k _, hL1.setCell hA1 (by decide) k _, hA1.set k (-1), HQ.out, by omega⟩)
                clear hN hL hA hO hI hky hN1 hM1 hL1 hA1 HQ HP hc e1 e2 f2
                go_wp2_with fail
                go_meet
                case rel => exact hfin.out
            have b4 : (d == 4) = false := beqF d4
            have hfin := Lib.hid (show OnceRel w (j + 1) _ _ (wr.alloc (.cells #[.int .i64 d, .int .i64 n, .int .i64 a, .int .u64 h] 39)) from ⟨_, _, _, _, hN, hL, hA, hI, by omega⟩)
            clear hN hL hA hI hO hkx hky e1 e2 f2 x0 x1
            go_wp2_with fail
            go_meet
            case rel => exact hfin.out
        case rest =>
          as_aux_lemma =>
            obtain ⟨T2, tv2, ls2, ad2, hN2, hL2, hA2, hI2, hj2⟩ := hcut
            obtain ⟨sl2, capl2, rfl⟩ := hL2.form
            obtain ⟨sa2, capa2, rfl⟩ := hA2.form_of hI2.len
            have hal2 := Lib.hid hI2.len
            have HX2 := Lib.hid (And.intro hN2 (And.intro hL2 (And.intro hA2 hI2)))
            clear hN2 hL2 hA2 hI2 HX c0 c1 c2 c3 hke hal hi0 hi3 hz0 hz1 hz2 hy0 hy1 hy2
            go_wp2_with fail
            go_loop [19] (fun i => Ctr ls2.length i) (fun i => ls2.length - (intOf i).toNat)
            case atStart => exact ⟨0, Nat.zero_le _, rfl⟩
            case round =>
              obtain ⟨q, hq, rfl⟩ := hrel
              by_cases hql : q < ls2.length
              · obtain ⟨hN2, hL2, hA2, hI2⟩ := HX2.out
                have hx := List.getElem?_eq_getElem hql
                have hql2 : q < ad2.length := by rw [hal2.out]; exact hql
                have hy := List.getElem?_eq_getElem hql2
                obtain ⟨g1, rfl, _, d1, _⟩ := hL2.at_ hx
                obtain ⟨g2, rfl, _, d2, _⟩ := hA2.at_ hy
                obtain ⟨_, _, _, x0, x1, _⟩ := hI2.each q _ _ hx hy
                have hat0 := hI2.at_eq hx hy
                generalize ls2[q] = x at *
                generalize ad2[q] = y at *
                clear hx hy HX2
                by_cases c : 0 ≤ y
                · rw [if_pos c] at hat0
                  have hat := hN2.at_eq x x0 x1 hat0
                  have cb : decide (y < 0) = false := ltF c
                  have cy : (y != y) = false := by simp
                  clear hN2 hL2 hA2 hI2 hat0 x0 x1
                  go_wp2_with ((with_reducible refine hat.mono ?_); rintro e w' ⟨rfl, rfl⟩)
                  go_round
                  case rel => exact ⟨q + 1, hql, by go_num⟩
                  case measure => simp [intOf]; omega
                · rw [if_neg c] at hat0
                  have hat := hN2.at_eq x x0 x1 hat0
                  have cb : decide (y < 0) = true := ltT (by omega)
                  have cc : decide (0 ≤ y) = false := leF (by omega)
                  clear hN2 hL2 hA2 hI2 hat0 x0 x1
                  go_wp2_with ((with_reducible refine hat.mono ?_); rintro e w' ⟨rfl, rfl⟩)
                  go_round
                  case rel => exact ⟨q + 1, hql, by go_num⟩
                  case measure => simp [intOf]; omega
              · have hqe : q = ls2.length := by omega
                obtain ⟨hN2, hL2, hA2, hI2⟩ := HX2.out
                have hfin := Lib.hid (show OnceRel w (j + 1) (.slice sl2 ls2.length capl2) (.slice sa2 ls2.length capa2) wc from ⟨T2, tv2, ls2, ad2, hN2, hL2, hA2, hI2, hj2⟩)
                clear HX2 hN2 hL2 hA2 hI2
                subst hqe
                go_wp2
                go_roundw
                case rel => exact ⟨j + 1, by go_num, by omega, hfin.out⟩
                case measure => simp [intOf]; omega
    · have hje : j = len2 := by omega
      subst hje
      clear HR hL hA hI
      go_wp2_with fail
      refine (awake_call _).mono ?_
      rintro e w3 ⟨rfl, hm⟩
      go_wp2
      go_ret
      exact ⟨rfl, (hN.mod.trans' hm).below _ (Nat.le_refl _) (fun _ _ x => x)⟩

set_option maxRecDepth 100000 in
theorem once_refused (a0 a1 : Int) (s2 : Option Addr) (len2 cap2 : Nat) (w : World) (h : ¬ (1 ≤ a0 ∧ a0 ≤ 65536 ∧ 1 ≤ a1)) :
    Calls Try.prog 4 #[.int .i64 a0, .int .u32 a1, .slice s2 len2 cap2] w fun e w' => e = .returned (.bool true) ∧ Below w.heap.size w w' := by
  have ha := (awake_call w).mono (R' := fun e w' => e = .returned (.bool true) ∧ Below w.heap.size w w') fun e w' ⟨he, hm⟩ => ⟨he, hm.below _ (Nat.le_refl _) (fun _ _ x => x)⟩
  have hc := new_no w a0 a1 h
  clear h
  go_enter Try.func4, Try.ntmps4
  go_wp2_with (first | ((with_reducible refine hc.mono ?_); rintro e w' ⟨rfl, rfl⟩) | ((with_reducible refine ha.mono ?_); rintro e w' ⟨rfl, hb⟩))
  go_ret
  exact ⟨rfl, hb⟩

set_option maxRecDepth 100000 in
theorem once_long (a0 a1 : Int) (s2 : Option Addr) (len2 cap2 : Nat) (w : World) (h1 : 1 ≤ a0 ∧ a0 ≤ 65536 ∧ 1 ≤ a1) (h2 : a1 ≤ 4294967295) (hl : 200 < len2) :
    Calls Try.prog 4 #[.int .i64 a0, .int .u32 a1, .slice s2 len2 cap2] w fun e w' => e = .returned (.bool true) ∧ Below w.heap.size w w' := by
  have hc := new_ok w a0 a1 h1.1 h1.2.1 h1.2.2 h2
  have hd : decide ((200 : Int) < (len2 : Int)) = true := ltT (by omega)
  clear h1 h2 hl
  go_enter Try.func4, Try.ntmps4
  go_wp2_with fail
  refine hc.mono ?_
  rintro e w0 ⟨rfl, hT0, hM0⟩
  clear hc hT0
  go_wp2_with fail
  refine (awake_call _).mono ?_
  rintro e w1 ⟨rfl, hM1⟩
  go_wp2
  go_ret
  exact ⟨rfl, (hM0.trans' hM1).below _ (Nat.le_refl _) (fun _ _ x => x)⟩

theorem handleOnce_walk (a0 a1 : Int) (s2 : Option Addr) (len2 cap2 : Nat) (z2 : List (List Int)) (w : World) (_w0 : (Lit.int .i64 a0).wf = true) (w1 : (Lit.int .u32 a1).wf = true) (R : Recs w s2 len2 [some .i64, some .i64, some .i64, some .u64] z2) :
    Calls Try.prog 4 #[.int .i64 a0, .int .u32 a1, .slice s2 len2 cap2] w fun e w' => e = .returned (.bool true) ∧ Below w.heap.size w w' := by
  by_cases h : 1 ≤ a0 ∧ a0 ≤ 65536 ∧ 1 ≤ a1
  · by_cases hl : len2 ≤ 200
    · exact once_in a0 a1 s2 len2 cap2 z2 w h (bounds_u32 w1).2 R hl
    · exact once_long a0 a1 s2 len2 cap2 w h (bounds_u32 w1).2 (by omega)
  · exact once_refused a0 a1 s2 len2 cap2 w h
end Go.Proofs.Ytbcecgbnnpbjbaa
