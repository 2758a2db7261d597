/- StoreFull, walked. Condition: the table of math/bits holds what its initialiser lays. -/
import Derived.Test.YtfmcddomciicdaaDoorStoreLawSpec
import Derived.Test.YtfmcddomciicdaaDoorAwake06
import Derived.Test.YtfmcddomciicdaaDoorArgs
set_option linter.unusedVariables false
set_option linter.unusedSimpArgs false
set_option maxRecDepth 100000
namespace Go.Proofs.YtfmcddomciicdaaDoor
open Go Go.RowKit

variable {F0 : Nat → Prop} {w0 w : World} {Ps : List Res}

abbrev hrow (R : List Rc) : List Value := R.map fun r => Value.int .u64 r.h
def FullRel1 (w : World) (b : Nat) (m : Nat) (l : Value) (j : Nat) (wr : World) : Prop := ∃ (S : Slb) (T : HTbl) (H : List Ent) (R : List Rc), StInv S T H R ∧ StK S T R 262144 m 4294967295 ∧ R.length = j ∧ (∀ r ∈ R, 0 ≤ r.a) ∧ (∀ r ∈ R, r.w.length ≤ 40) ∧
  Sep No w wr [stR b m 4294967295 S T, rowAt 31 1 l j (hrow R)]
def FullRel2 (w : World) (b : Nat) (m : Nat) (l : Value) (g : Nat) (wr : World) : Prop := ∃ (S : Slb) (T : HTbl) (H : List Ent) (R : List Rc), StInv S T H R ∧ StK S T R 262144 m 4294967295 ∧ R.length = m ∧ (liveR R).length + g = m ∧ (∀ r ∈ R, r.w.length ≤ 40) ∧
  Sep No w wr [stR b m 4294967295 S T, rowAt 31 1 l m (hrow R)]
def FullRel3 (w : World) (b : Nat) (m : Nat) (g k : Nat) (wr : World) : Prop := ∃ (S : Slb) (T : HTbl) (H : List Ent) (R : List Rc), StInv S T H R ∧ StK S T R 262144 m 4294967295 ∧ R.length = m + k ∧ (liveR R).length + g = m + k ∧ (∀ r ∈ R, r.w.length ≤ 40) ∧
  Sep No w wr [stR b m 4294967295 S T]

set_option maxHeartbeats 4000000 in
theorem full_in (m : Nat) (hm : 1 ≤ m ∧ m ≤ 40) (s1 : Option Addr) (len1 cap1 : Nat) (z1 : List (List Int)) (w : World) (R1 : Recs w s1 len1 [some .i64] z1) (hlen : len1 ≤ 40) (hT : Tab64 w) :
    Calls Tryd.prog 3 #[.int .i64 (m : Nat), .slice s1 len1 cap1] w fun e w' => e = .returned (.bool true) ∧ Below w.heap.size w w' := by
  have d1 : decide ((m : Int) < 1) = false := ltF (by omega)
  have d2 : decide (40 < (m : Int)) = false := ltF (by omega)
  have d3 : decide ((40 : Int) < (len1 : Int)) = false := ltF (by omega)
  have HR := Lib.hid R1
  have HT := Lib.hid hT
  obtain ⟨i0, hi0, hz0, hz1, hz2⟩ := info_parts infoHandle
  have HI := Lib.hid (And.intro hi0 (And.intro hz0 (And.intro hz1 hz2)))
  obtain ⟨hm1, hm2⟩ := hm
  clear R1 hT hi0 hz0 hz1 hz2
  go_enter Tryd.func3, Tryd.ntmps3
  go_wp2_with fail
  refine (stnew_call (Sep.nil w) 262144 (m : Int) 4294967295 (by omega) (by omega) (by omega) (by omega) (by omega) (by omega)).mono ?_
  rintro e w1 ⟨b, rfl, h1⟩
  have h1 : Sep No w w1 [stR b m 4294967295 (Slb.empty 262144) ⟨m, 4294967295, []⟩] := h1
  have hst := Lib.hid (show FullRel1 w b m (.slice none 0 0) 0 w1 from ⟨_, _, [], [], StInv.start (by omega) (by omega) (by omega) (by omega) (by omega) (by omega), StK.new, rfl, by simp, by simp, h1.pushNil _ _⟩)
  clear h1
  go_wp2_with fail
  go_loopw [7, 8] (fun l i wr => ∃ j : Nat, i = .int .i64 j ∧ j ≤ m ∧ FullRel1 w b m l j wr) (fun _ i _ => m - (RowKit.intOf i).toNat)
  case atStart => exact ⟨0, rfl, Nat.zero_le _, hst.out⟩
  case round =>
    obtain ⟨j, rfl, hj, S, T, H, R, I, K, hRj, hRa, hRw, h⟩ := hrel
    clear hst
    obtain ⟨sl, cl, rfl⟩ := h.form 1 rfl
    have hN := K.gens.noret I.tok (by rw [K.last]; omega)
    have hlv : (liveR R).length = j := by rw [liveR_all hRa, hRj]
    have hpg := pgR_le (R := R) (k := 1) (by omega) (fun r hr => by have := hRw r hr; omega)
    by_cases hlt : j < m
    · obtain ⟨hd, er, S', T', H', R', M⟩ := I.made (j : Int)
      have hpo := pagesOf_le (n := (j : Int) + 2) (by omega)
      have he := I.made_ok hN (by omega) (by omega) (by rw [K.most, hlv]; omega) (by rw [K.quo]; omega) M
      subst he
      have hc := stmake_call h 0 rfl (HT.out.mod h.mod) M
      obtain ⟨_, _, _, a, hR'⟩ := M.good rfl
      have ML := M.live
      have HY : Hid (StInv S' T' H' R' ∧ StK S' T' R' 262144 m 4294967295 ∧ R'.length = j + 1 ∧ (∀ r ∈ R', 0 ≤ r.a) ∧ (∀ r ∈ R', r.w.length ≤ 40) ∧ hrow R' = hrow R ++ [.int .u64 hd]) := by
        refine ⟨M.inv, K.made M, by omega, fun r hr => ?_, ML.2.2 40 hRw (by omega), by rw [hR']; simp⟩
        rw [hR'] at hr
        rcases List.mem_append.1 hr with hr | hr
        · exact hRa r hr
        · rw [List.mem_singleton.1 hr]; exact Int.natCast_nonneg a
      clear h I K hRj hRa hRw hN hlv hpg hpo M hR' ML
      go_wp2_with fail
      refine hc.mono ?_
      rintro e w2 ⟨rfl, h2⟩
      have h2 : Sep No w w2 [stR b m 4294967295 S' T', rowAt 31 1 (.slice sl j cl) j (hrow R)] := h2
      obtain ⟨hi0, hz0, hz1, hz2⟩ := HI.out
      clear hc
      go_wp2_with (at_builtin; refine wpList_append_sep1 h2 1 rfl (by rfl) _ _ 29 rfl Tryd.underlying29 hi0 hz0 hz1 hz2 rfl (by rfl) _ _ (by rfl) (by simp) (by rfl) _ (by unfold maxLen; omega) (by omega) ?_)
      intro gg capg w3 h3
      have H3 : Hid (FullRel1 w b m (.slice (some ⟨gg, 0, none⟩) (j + 1) capg) (j + 1) w3) := by
        obtain ⟨y1, y2, y3, y4, y5, y6⟩ := HY.out
        refine ⟨S', T', H', R', y1, y2, y3, y4, y5, ?_⟩
        rw [y6]
        exact h3
      clear h2 h3 hi0 hz0 hz1 hz2 HY
      go_wp2
      go_roundw
      case rel => exact ⟨j + 1, by go_num, by omega, H3.out⟩
      case measure => simp [RowKit.intOf]; omega
    · obtain rfl : j = m := by omega
      clear hlt
      have hw := stwords_call h 0 rfl
      have hpgl := I.pages_le
      obtain ⟨n, hn⟩ : ∃ n, S.pg.length = n := ⟨_, rfl⟩
      rw [hn] at hw hpgl
      obtain ⟨hd, er, S', T', H', R', M⟩ := I.made 1
      have he := I.made_full hN (by omega) (by omega) (by rw [K.most, hlv]) (by rw [K.quo, show Slb.pagesOf (1 + 2) = 1 from rfl]; omega) M
      subst he
      obtain ⟨hd0, hR', hT', hpg'⟩ := M.err (by omega)
      subst hR' hT' hd0
      have hpg' : S'.pg.length = n := by rw [hpg', hn]
      have HK := Lib.hid (And.intro M.inv (And.intro (K.made M) (And.intro hRj (And.intro hlv (And.intro hRw (And.intro hpg' M.inv.all_len))))))
      have hM := Lib.hid M
      have hnb : n ≤ 40 := by omega
      clear h I K hRj hRa hRw hN hlv hpg M hn hpg' hpgl
      go_wp2_with fail
      refine hw.mono ?_
      rintro e w2 ⟨rfl, h2⟩
      have h2 : Sep No w w2 [stR b j 4294967295 S T', rowAt 31 1 (.slice sl j cl) j (hrow R')] := h2
      have hc := stmake_call h2 0 rfl (HT.out.mod h2.mod) hM.out
      clear hw h2
      go_wp2_with fail
      refine hc.mono ?_
      rintro e w3 ⟨rfl, h3⟩
      have h3 : Sep No w w3 [stR b j 4294967295 S' T', rowAt 31 1 (.slice sl j cl) j (hrow R')] := h3
      have hw := stwords_call h3 0 rfl
      rw [HK.out.2.2.2.2.2.1] at hw
      clear hc h3 hM
      have dn : (64 * (n : Int) != 64 * (n : Int)) = false := bneF rfl
      go_wp2_with fail
      refine hw.mono ?_
      rintro e w4 ⟨rfl, h4⟩
      have h4 : Sep No w w4 [stR b j 4294967295 S' T', rowAt 31 1 (.slice sl j cl) j (hrow R')] := h4
      have ha := stall_call h4 0 rfl
      have hal : (stAll S').length = j := HK.out.2.2.2.2.2.2.trans HK.out.2.2.2.1
      rw [hal] at ha
      clear hw h4 hal
      go_wp2_with fail
      refine ha.mono ?_
      rintro e w5 ⟨sa, ca, rfl, h5⟩
      have h5 : Sep No w w5 [stR b j 4294967295 S' T', rowAt 31 1 (.slice sl j cl) j (hrow R')] := Sep.left (Ps := [_, _]) h5
      have hst : Hid (FullRel2 w b j (.slice sl j cl) 0 w5) := ⟨S', T', H', R', HK.out.1, HK.out.2.1, HK.out.2.2.1, HK.out.2.2.2.1, HK.out.2.2.2.2.1, h5⟩
      clear ha h5 HK
      have dj : ((j : Int) != (j : Int)) = false := bneF rfl
      go_wp2_with fail
      go_loopw [14, 15] (fun gv iv wr => ∃ g i : Nat, gv = .int .i64 g ∧ iv = .int .i64 i ∧ i ≤ len1 ∧ g ≤ i ∧ FullRel2 w b j (.slice sl j cl) g wr) (fun _ iv _ => len1 - (RowKit.intOf iv).toNat)
      case atStart => exact ⟨0, 0, rfl, rfl, Nat.zero_le _, Nat.le_refl _, hst.out⟩
      case round =>
        obtain ⟨g, i, rfl, rfl, hi, hgi, S, T, H, R, I, K, hRj, hlv, hRw, h⟩ := hrel
        clear hst
        by_cases hlt : i < len1
        · obtain ⟨bb, off, rfl, hb, hc⟩ := HR.out.cells (by omega)
          have hzj : z1[i]? = some (z1[i]'(by rw [HR.out.count]; exact hlt)) := List.getElem?_eq_getElem _
          obtain ⟨hrl, hro⟩ := HR.out.ok _ (List.mem_of_getElem? hzj)
          generalize z1[i]'(by rw [HR.out.count]; exact hlt) = r at *
          match r, hrl with
          | [x], _ =>
          have hx := bounds_i64 (hro 0 _ x rfl rfl)
          have c0 := h.old (hc i _ hzj 0 _ x rfl rfl)
          simp only [List.length_cons, List.length_nil, Nat.add_zero, Nat.zero_add, Nat.reduceAdd, Nat.mul_one, fv] at c0
          clear hc hzj hro hb
          by_cases hin : 0 ≤ x ∧ x < (j : Int)
          · obtain ⟨d, rfl⟩ := Int.eq_ofNat_of_zero_le hin.1
            have hdR : R[d]? = some (R[d]'(by omega)) := List.getElem?_eq_getElem _
            obtain ⟨r, hr⟩ : ∃ r, R[d]'(by omega) = r := ⟨_, rfl⟩
            rw [hr] at hdR
            obtain ⟨er, S', T', H', R', D⟩ := I.drops (StInv.named T hdR)
            have DL := D.live
            have hrg := I.rng hdR
            have hc := stdrop_call h 0 rfl I (hh := r.h) ⟨hrg.1, hrg.2.1⟩ D
            obtain ⟨gg, rfl, cx, _⟩ := h.item 1 rfl (o := d) (x := .int .u64 r.h) (by rw [List.getElem?_map, hdR]; rfl)
            have hrow' : hrow R' = hrow R := by
              have := congrArg (List.map (Value.int .u64)) DL.2.1
              rw [List.map_map, List.map_map] at this
              exact this
            obtain ⟨hh, hhe⟩ : ∃ hh, r.h = hh := ⟨_, rfl⟩
            rw [hhe] at hc cx
            have dx1 : decide ((0 : Int) ≤ (d : Int)) = true := leT (by omega)
            have dx2 : decide ((d : Int) < (j : Int)) = true := ltT hin.2
            have hdn : d < j := by omega
            have hY : Hid (∀ w2, Sep No w w2 [stR b j 4294967295 S' T', rowAt 31 1 (.slice (some ⟨gg, 0, none⟩) j cl) j (hrow R)] → (er = 0 ∧ FullRel2 w b j (.slice (some ⟨gg, 0, none⟩) j cl) (g + 1) w2) ∨ (er = 7 ∧ FullRel2 w b j (.slice (some ⟨gg, 0, none⟩) j cl) g w2)) := fun w2 h2 => by
              rw [← hrow'] at h2
              have hK' := K.drops D
              rcases DL.1 with ⟨e1, e2⟩ | ⟨e1, e2, _, _⟩
              · exact .inl ⟨e1, S', T', H', R', D.inv, hK', by rw [DL.2.2.1, hRj], by omega, DL.2.2.2 40 hRw, h2⟩
              · exact .inr ⟨e1, S', T', H', R', D.inv, hK', by rw [DL.2.2.1, hRj], by rw [e2]; exact hlv, DL.2.2.2 40 hRw, h2⟩
            clear h I K hRj hlv hRw hdR hr D DL hrg hrow' hhe hin
            go_wp2_with fail
            refine hc.mono ?_
            rintro e w2 ⟨rfl, h2⟩
            have h3 := hY.out w2 h2
            clear hc h2 hY c0 cx
            rcases h3 with ⟨rfl, h3⟩ | ⟨rfl, h3⟩
            · have H3 := Lib.hid h3
              clear h3
              go_wp2
              go_roundw
              case rel => exact ⟨g + 1, i + 1, by go_num, by go_num, by omega, by omega, H3.out⟩
              case measure => simp [RowKit.intOf]; omega
            · have H3 := Lib.hid h3
              clear h3
              go_wp2
              go_roundw
              case rel => exact ⟨g, i + 1, by go_num, by go_num, by omega, by omega, H3.out⟩
              case measure => simp [RowKit.intOf]; omega
          · have hst : Hid (FullRel2 w b j (.slice sl j cl) g wr) := ⟨S, T, H, R, I, K, hRj, hlv, hRw, h⟩
            have hd : decide ((0 : Int) ≤ x) = false ∨ decide ((0 : Int) ≤ x) = true ∧ decide (x < (j : Int)) = false := by
              by_cases h0 : 0 ≤ x
              · exact .inr ⟨leT h0, ltF (by omega)⟩
              · exact .inl (leF (by omega))
            clear h I K hRj hlv hRw hin
            rcases hd with e1 | ⟨e1, e2⟩
            · go_wp2
              go_roundw
              case rel => exact ⟨g, i + 1, by go_num, by go_num, by omega, by omega, hst.out⟩
              case measure => simp [RowKit.intOf]; omega
            · go_wp2
              go_roundw
              case rel => exact ⟨g, i + 1, by go_num, by go_num, by omega, by omega, hst.out⟩
              case measure => simp [RowKit.intOf]; omega
        · obtain rfl : i = len1 := by omega
          have hst : Hid (FullRel3 w b j g 0 wr) := ⟨S, T, H, R, I, K, hRj, hlv, hRw, Sep.left (Ps := [_]) h⟩
          have hg40 : g ≤ 40 := by omega
          clear h I K hRj hlv hRw hlt HR
          go_wp2_with fail
          go_loopw [16] (fun iv wr => ∃ k : Nat, iv = .int .i64 k ∧ k ≤ g ∧ FullRel3 w b j g k wr) (fun iv _ => g - (RowKit.intOf iv).toNat)
          case atStart => exact ⟨0, rfl, Nat.zero_le _, hst.out⟩
          case round =>
            obtain ⟨k, rfl, hk, S, T, H, R, I, K, hRj, hlv, hRw, h⟩ := hrel
            clear hst
            have hN := K.gens.noret I.tok (by rw [K.last]; omega)
            have hpg := pgR_le (R := R) (k := 1) (by omega) (fun r hr => by have := hRw r hr; omega)
            by_cases hlt : k < g
            · obtain ⟨hd, er, S', T', H', R', M⟩ := I.made 0
              have he := I.made_ok hN (by omega) (by omega) (by rw [K.most]; omega) (by rw [K.quo, show Slb.pagesOf (0 + 2) = 1 from rfl]; omega) M
              subst he
              have hc := stmake_call h 0 rfl (HT.out.mod h.mod) M
              have ML := M.live
              have hY : Hid (∀ w2, Sep No w w2 [stR b j 4294967295 S' T'] → FullRel3 w b j g (k + 1) w2) := fun w2 h2 => ⟨S', T', H', R', M.inv, K.made M, by omega, by omega, ML.2.2 40 hRw (by omega), h2⟩
              clear h I K hRj hlv hRw hN hpg M ML
              go_wp2_with fail
              refine hc.mono ?_
              rintro e w2 ⟨rfl, h2⟩
              have H3 := Lib.hid (hY.out w2 h2)
              clear hc h2 hY
              go_wp2
              go_roundw
              case rel => exact ⟨k + 1, by go_num, by omega, H3.out⟩
              case measure => simp [RowKit.intOf]; omega
            · obtain rfl : k = g := by omega
              clear hlt
              obtain ⟨hd, er, S', T', H', R', M⟩ := I.made 0
              have he := I.made_full hN (by omega) (by omega) (by rw [K.most]; omega) (by rw [K.quo, show Slb.pagesOf (0 + 2) = 1 from rfl]; omega) M
              subst he
              have hc := stmake_call h 0 rfl (HT.out.mod h.mod) M
              clear h I K hRj hlv hRw hN hpg M
              go_wp2_with fail
              refine hc.mono ?_
              rintro e w2 ⟨rfl, h2⟩
              have hn := stnew_call h2 0 1 1 (by omega) (by omega) (by omega) (by omega) (by omega) (by omega)
              clear hc h2
              go_wp2_with fail
              refine hn.mono ?_
              rintro e w3 ⟨b2, rfl, h3⟩
              have h3 : Sep No w w3 [stR b j 4294967295 S' T', stR b2 1 1 (Slb.empty 0) ⟨1, 1, []⟩] := h3
              have I0 : StInv (Slb.empty 0) ⟨1, 1, []⟩ [] [] := StInv.start (by omega) (by omega) (by omega) (by omega) (by omega) (by omega)
              obtain ⟨hd2, er2, S2, T2, H2, R2, M2⟩ := I0.made 0
              have he := I0.made_quota (by omega) (by omega) (by decide) (fun _ a p N k o => by have := o.ent; cases this) M2
              subst he
              have hc := stmake_call h3 1 rfl (HT.out.mod h3.mod) M2
              clear hn h3 I0 M2
              go_wp2_with fail
              refine hc.mono ?_
              rintro e w4 ⟨rfl, h4⟩
              have HM := Lib.hid h4.mod
              clear hc h4
              have ha := awake06_call w4 (HT.out.mod HM.out)
              go_wp2_with fail
              refine ha.mono ?_
              rintro e w9 ⟨rfl, hm9⟩
              have H9 := Lib.hid (HM.out.trans' hm9)
              clear ha hm9
              go_wp2
              go_ret
              exact ⟨rfl, H9.out.below _ (Nat.le_refl _) (fun _ _ x => x)⟩

theorem storeFull_walk (a0 : Int) (s1 : Option Addr) (len1 cap1 : Nat) (z1 : List (List Int)) (w : World) (w0 : (Lit.int .i64 a0).wf = true) (R : Recs w s1 len1 [some .i64] z1) (hT : Tab64 w) :
    Calls Tryd.prog 3 #[.int .i64 a0, .slice s1 len1 cap1] w fun e w' => e = .returned (.bool true) ∧ Below w.heap.size w w' := by
  by_cases hall : (1 ≤ a0 ∧ a0 ≤ 40) ∧ len1 ≤ 40
  · obtain ⟨m, rfl⟩ := Int.eq_ofNat_of_zero_le (show 0 ≤ a0 by omega)
    exact full_in m (by omega) s1 len1 cap1 z1 w R hall.2 hT
  · have HM := Lib.hid (Mod.refl No w)
    have HT := Lib.hid hT
    clear hT R
    have hd : decide (a0 < 1) = true ∨ decide (a0 < 1) = false ∧ decide (40 < a0) = true ∨ decide (a0 < 1) = false ∧ decide (40 < a0) = false ∧ decide ((40 : Int) < (len1 : Int)) = true := by
      by_cases h1 : a0 < 1
      · exact .inl (ltT h1)
      · by_cases h2 : 40 < a0
        · exact .inr (.inl ⟨ltF (by omega), ltT h2⟩)
        · exact .inr (.inr ⟨ltF (by omega), ltF (by omega), ltT (by omega)⟩)
    clear hall
    rcases hd with d1 | ⟨d1, d2⟩ | ⟨d1, d2, d3⟩
    · go_enter Tryd.func3, Tryd.ntmps3
      have ha := awake06_call w (HT.out.mod HM.out)
      go_wp2_with fail
      refine ha.mono ?_
      rintro e w9 ⟨rfl, hm9⟩
      have H9 := Lib.hid (HM.out.trans' hm9)
      clear ha hm9
      go_wp2
      go_ret
      exact ⟨rfl, H9.out.below _ (Nat.le_refl _) (fun _ _ x => x)⟩
    · go_enter Tryd.func3, Tryd.ntmps3
      have ha := awake06_call w (HT.out.mod HM.out)
      go_wp2_with fail
      refine ha.mono ?_
      rintro e w9 ⟨rfl, hm9⟩
      have H9 := Lib.hid (HM.out.trans' hm9)
      clear ha hm9
      go_wp2
      go_ret
      exact ⟨rfl, H9.out.below _ (Nat.le_refl _) (fun _ _ x => x)⟩
    · go_enter Tryd.func3, Tryd.ntmps3
      have ha := awake06_call w (HT.out.mod HM.out)
      go_wp2_with fail
      refine ha.mono ?_
      rintro e w9 ⟨rfl, hm9⟩
      have H9 := Lib.hid (HM.out.trans' hm9)
      clear ha hm9
      go_wp2
      go_ret
      exact ⟨rfl, H9.out.below _ (Nat.le_refl _) (fun _ _ x => x)⟩
end Go.Proofs.YtfmcddomciicdaaDoor
