/- StoreCosts, walked. Condition: the table of math/bits holds what its initialiser lays. -/
import Derived.Test.YtfmcddomciicdaaDoorStoreFullWalk
import Derived.Test.YtfmcddomciicdaaDoorSpareSpec
set_option linter.unusedVariables false
set_option linter.unusedSimpArgs false
set_option maxRecDepth 100000
namespace Go.Proofs.YtfmcddomciicdaaDoor
open Go Go.RowKit

variable {F0 : Nat → Prop} {w0 w : World} {Ps : List Res}

def CostRel1 (w : World) (b : Nat) (l : Value) (j : Nat) (wr : World) : Prop := ∃ (S : Slb) (T : HTbl) (H : List Ent) (R : List Rc), StInv S T H R ∧ StK S T R 262144 100 4294967295 ∧ R.length ≤ j ∧ (∀ r ∈ R, 0 ≤ r.a) ∧ (∀ r ∈ R, r.w.length ≤ 3998) ∧
  Sep No w wr [stR b 100 4294967295 S T, rowAt 31 1 l R.length (hrow R)]
def CostRel2 (w : World) (b : Nat) (l : Value) (n i : Nat) (wr : World) : Prop := ∃ (S : Slb) (T : HTbl) (H : List Ent) (R : List Rc), StInv S T H R ∧ R.length = n ∧ (∀ k r, R[k]? = some r → (0 ≤ r.a ↔ i ≤ k)) ∧
  Sep No w wr [stR b 100 4294967295 S T, rowAt 31 1 l n (hrow R)]

/-- What a record costs. -/
inductive Costs (S S' : Slb) (x : Int) : Prop
  | free (h : x ≤ 26) (sp : 0 < S.spare (clsOf (x + 2) : Nat)) (e : S'.pg.length = S.pg.length)
  | small (h : x ≤ 26) (sp : S.spare (clsOf (x + 2) : Nat) = 0) (e : S'.pg.length = S.pg.length + 1)
  | large (h : 26 < x) (e : S'.pg.length = S.pg.length + Slb.pagesOf (x + 2))
theorem Made.costs {S S' : Slb} {T T' : HTbl} {H H' : List Ent} {R R' : List Rc} {x hd : Int} (I : StInv S T H R) (h0 : 0 ≤ x) (M : Made S T H R x hd 0 S' T' H' R') : Costs S S' x := by
  have hp := I.rep.spare_pos (clsOf_lt (x + 2))
  rcases M.pages with ⟨e, hs, o⟩ | ⟨e, hn⟩
  · exact .free (by omega) (hp.2 o) e
  · by_cases h : x ≤ 26
    · have h0' : 0 ≤ S.spare (clsOf (x + 2) : Nat) := by rw [I.rep.spare_eq (clsOf_lt _)]; exact (spareL_range _ _).1
      refine .small h ?_ (by rw [e]; unfold Slb.pagesOf; rw [if_pos (by omega)])
      refine Classical.byContradiction fun hc => ?_
      obtain ⟨a, p, N, k, o⟩ := hp.1 (by omega)
      exact hn (by omega) a p N k o
    · exact .large (by omega) e


set_option maxHeartbeats 4000000 in
theorem costs_in (s0 : Option Addr) (len0 cap0 : Nat) (z0 : List (List Int)) (w : World) (R0 : Recs w s0 len0 [some .i64] z0) (hlen : len0 ≤ 30) (hT : Tab64 w) :
    Calls Tryd.prog 4 #[.slice s0 len0 cap0] w fun e w' => e = .returned (.bool true) ∧ Below w.heap.size w w' := by
  have d0 : decide ((30 : Int) < (len0 : Int)) = false := ltF (by omega)
  have HR := Lib.hid R0
  have HT := Lib.hid hT
  obtain ⟨i0, hi0, hz0, hz1, hz2⟩ := info_parts infoHandle
  have HI := Lib.hid (And.intro hi0 (And.intro hz0 (And.intro hz1 hz2)))
  clear R0 hT hi0 hz0 hz1 hz2
  go_enter Tryd.func4, Tryd.ntmps4
  go_wp2_with fail
  refine (stnew_call (Sep.nil w) 262144 100 4294967295 (by omega) (by omega) (by omega) (by omega) (by omega) (by omega)).mono ?_
  rintro e w1 ⟨b, rfl, h1⟩
  have h1 : Sep No w w1 [stR b 100 4294967295 (Slb.empty 262144) ⟨100, 4294967295, []⟩] := h1
  have hst := Lib.hid (show CostRel1 w b (.slice none 0 0) 0 w1 from ⟨_, _, [], [], StInv.start (by omega) (by omega) (by omega) (by omega) (by omega) (by omega), StK.new, Nat.le_refl _, by simp, by simp, h1.pushNil _ _⟩)
  clear h1
  go_wp2_with fail
  go_loopw [5, 6] (fun l i wr => ∃ j : Nat, i = .int .i64 j ∧ j ≤ len0 ∧ CostRel1 w b l j wr) (fun _ i _ => len0 - (RowKit.intOf i).toNat)
  case atStart => exact ⟨0, rfl, Nat.zero_le _, hst.out⟩
  case round =>
    obtain ⟨j, rfl, hj, S, T, H, R, I, K, hRj, hRa, hRw, h⟩ := hrel
    clear hst
    obtain ⟨sl, cl, rfl⟩ := h.form 1 rfl
    obtain ⟨L, hL⟩ : ∃ L, R.length = L := ⟨_, rfl⟩
    rw [hL] at hRj h ⊢
    by_cases hlt : j < len0
    · obtain ⟨bb, off, rfl, hb, hc⟩ := HR.out.cells (by omega)
      have hzj : z0[j]? = some (z0[j]'(by rw [HR.out.count]; exact hlt)) := List.getElem?_eq_getElem _
      obtain ⟨hrl, hro⟩ := HR.out.ok _ (List.mem_of_getElem? hzj)
      generalize z0[j]'(by rw [HR.out.count]; exact hlt) = r at *
      match r, hrl with
      | [x], _ =>
      have hx := bounds_i64 (hro 0 _ x rfl rfl)
      have HC := Lib.hid (hc j _ hzj 0 _ x rfl rfl)
      simp only [List.length_cons, List.length_nil, Nat.add_zero, Nat.zero_add, Nat.reduceAdd, Nat.mul_one, fv] at HC
      clear hc hzj hro hb
      obtain ⟨hd, er, S', T', H', R', M⟩ := I.made x
      have hw := stwords_call h 0 rfl
      have hpl : S.pg.length ≤ 4096 := by have := I.rep.ok.fit; have := I.rep.ok.q1; omega
      have hpl' : S'.pg.length ≤ 4096 := by have := M.inv.rep.ok.fit; have := M.inv.rep.ok.q1; omega
      obtain ⟨n, hn⟩ : ∃ n, S.pg.length = n := ⟨_, rfl⟩
      rw [hn] at hw hpl
      by_cases hbad : x < 0 ∨ 3998 < x
      · have hM : er = 2 ∧ S' = S ∧ T' = T := by
          cases M with
          | arg => exact ⟨rfl, rfl, rfl⟩
          | quota => omega
          | full => omega
          | ok => omega
        obtain ⟨rfl, rfl, rfl⟩ := hM
        have hc := fun w' (h' : Sep No w w' [stR b 100 4294967295 S' T', rowAt 31 1 (.slice sl L cl) L (hrow R)]) => stmake_call h' 0 rfl (HT.out.mod h'.mod) M
        have HM := Lib.hid hc
        have HY : Hid (∀ w', Sep No w w' [stR b 100 4294967295 S' T', rowAt 31 1 (.slice sl L cl) L (hrow R)] → CostRel1 w b (.slice sl L cl) (j + 1) w') := fun w' h' => ⟨S', T', H, R, I, K, by omega, hRa, hRw, by rw [hL]; exact h'⟩
        have hof : ∃ y, IntKind.i64.wrap (x + 2) = y ∧ (3998 < x → (cof y).2.2 = 2) := ⟨_, rfl, fun h3 => by rw [cof_bad (by rw [IntKind.wrap_i64]; omega)]⟩
        obtain ⟨y, hy, hye⟩ := hof
        have hoc := fun w' => of_call y w'
        obtain ⟨c1, hc1⟩ : ∃ q, (cof y).1 = q := ⟨_, rfl⟩
        obtain ⟨c2, hc2⟩ : ∃ q, (cof y).2.1 = q := ⟨_, rfl⟩
        obtain ⟨c3, hc3⟩ : ∃ q, (cof y).2.2 = q := ⟨_, rfl⟩
        rw [hc1, hc2, hc3] at hoc
        rw [hc3] at hye
        have HO := Lib.hid hoc
        have hdx : (decide (x < 0) = true) ∨ (decide (x < 0) = false ∧ c3 = 2) := by
          rcases hbad with h1 | h1
          · exact .inl (ltT h1)
          · exact .inr ⟨ltF (by omega), hye h1⟩
        clear I K M hRa hRw hn hL hc hoc hye hc1 hc2 hc3 hbad
        have c0 := h.old HC.out
        clear h
        go_wp2_with fail
        refine hw.mono ?_
        rintro e w2 ⟨rfl, h2⟩
        have h2 : Sep No w w2 [stR b 100 4294967295 S' T', rowAt 31 1 (.slice sl L cl) L (hrow R)] := h2
        have hoc := HO.out w2
        have c0 := h2.old HC.out
        have H2 := Lib.hid h2
        clear hw h2
        go_wp2_with fail
        refine hoc.mono ?_
        rintro e w3 ⟨rfl, hm3⟩
        have h3 := H2.out.more hm3
        have c0 := h3.old HC.out
        have hmk := HM.out w3 h3
        clear hoc hm3 H2 h3
        rcases hdx with dx | ⟨dx, rfl⟩
        · go_wp2_with fail
          refine hmk.mono ?_
          rintro e w4 ⟨rfl, h4⟩
          have H4 : Hid (CostRel1 w b (.slice sl L cl) (j + 1) w4) := HY.out w4 h4
          clear hmk h4 HM HY c0
          go_wp2
          go_roundw
          case rel => exact ⟨j + 1, by go_num, by omega, H4.out⟩
          case measure => simp [RowKit.intOf]; omega
        · go_wp2_with fail
          refine hmk.mono ?_
          rintro e w4 ⟨rfl, h4⟩
          have H4 : Hid (CostRel1 w b (.slice sl L cl) (j + 1) w4) := HY.out w4 h4
          clear hmk h4 HM HY c0
          go_wp2
          go_roundw
          case rel => exact ⟨j + 1, by go_num, by omega, H4.out⟩
          case measure => simp [RowKit.intOf]; omega
      · have he := I.made_ok (K.gens.noret I.tok (by rw [K.last]; omega)) (by omega) (by omega) (by rw [K.most]; have := liveR_le R; omega) (by
          rw [K.quo]
          have h1 := pgR_le (R := R) (k := 63) (by omega) (fun r hr => by have := hRw r hr; omega)
          have h2 := liveR_le R
          have h3 := pagesOf_le (n := x + 2) (by omega)
          have h4 : 63 * (liveR R).length ≤ 63 * 30 := Nat.mul_le_mul_left _ (by omega)
          omega) M
        subst he
        have C := M.costs I (by omega)
        have ML := M.live
        obtain ⟨_, _, _, a, hR'⟩ := M.good rfl
        have hc := fun w' (h' : Sep No w w' [stR b 100 4294967295 S T, rowAt 31 1 (.slice sl L cl) L (hrow R)]) => stmake_call h' 0 rfl (HT.out.mod h'.mod) M
        have HM := Lib.hid hc
        have HY : Hid (∀ gg capg w', Sep No w w' [stR b 100 4294967295 S' T', rowAt 31 1 (.slice (some ⟨gg, 0, none⟩) (L + 1) capg) (L + 1) (hrow R ++ [.int .u64 hd])] → CostRel1 w b (.slice (some ⟨gg, 0, none⟩) (L + 1) capg) (j + 1) w') := fun gg capg w' h' => by
          refine ⟨S', T', H', R', M.inv, K.made M, by omega, fun r hr => ?_, ML.2.2 3998 hRw (by omega), ?_⟩
          · rw [hR'] at hr
            rcases List.mem_append.1 hr with hr | hr
            · exact hRa r hr
            · rw [List.mem_singleton.1 hr]; exact Int.natCast_nonneg a
          · rw [ML.2.1, hL, hR']
            unfold hrow at h' ⊢
            rw [List.map_append]
            exact h'
        have hlb : L ≤ 30 := by omega
        have dx : decide (x < 0) = false := ltF (by omega)
        have ey : IntKind.i64.wrap (x + 2) = x + 2 := by rw [IntKind.wrap_i64]; omega
        have hoc := fun w' => of_call (x + 2) w'
        have HO := Lib.hid hoc
        have hx0 : 0 ≤ x := by omega
        have hx1 : x ≤ 3998 := by omega
        have c0 := h.old HC.out
        clear I K M hRa hRw hc hoc hbad ML hR'
        go_wp2_with fail
        refine hw.mono ?_
        rintro e w2 ⟨rfl, h2⟩
        have h2 : Sep No w w2 [stR b 100 4294967295 S T, rowAt 31 1 (.slice sl L cl) L (hrow R)] := h2
        have hoc := HO.out w2
        have c0 := h2.old HC.out
        have H2 := Lib.hid h2
        clear hw h2 HO h
        cases C with
        | free hs sp epg =>
          rw [cof_small (by omega) (by omega)] at hoc
          obtain ⟨c, hcc⟩ : ∃ c : Nat, clsOf (x + 2) = c := ⟨_, rfl⟩
          rw [hcc] at hoc sp
          have HSP := Lib.hid sp
          rw [hn] at epg
          have HE := Lib.hid epg
          clear hcc sp epg hn
          go_wp2_with fail
          refine hoc.mono ?_
          rintro e w3 ⟨rfl, hm3⟩
          have h3 := H2.out.more hm3
          have c0 := h3.old HC.out
          have hsp := stspare_call h3 0 rfl (c : Nat)
          have dsp : decide (0 < S.spare (c : Nat)) = true := ltT HSP.out
          obtain ⟨sp, hspe⟩ : ∃ sp, S.spare (c : Nat) = sp := ⟨_, rfl⟩
          rw [hspe] at hsp dsp
          have H3 := Lib.hid h3
          clear hoc hm3 H2 h3 HSP hspe
          go_wp2_with fail
          refine hsp.mono ?_
          rintro e w4 ⟨rfl, hm4⟩
          have h4 := H3.out.more hm4
          have c0 := h4.old HC.out
          have hmk := HM.out w4 h4
          clear hsp hm4 h4 H3 HM
          go_wp2_with fail
          refine hmk.mono ?_
          rintro e w5 ⟨rfl, h4⟩
          have h4 : Sep No w w5 [stR b 100 4294967295 S' T', rowAt 31 1 (.slice sl L cl) L (hrow R)] := h4
          clear hmk c0
          have dn : (64 * (n : Int) != 64 * (n : Int)) = false := bneF rfl
          obtain ⟨hi0, hz0, hz1, hz2⟩ := HI.out
          go_wp2_with (at_builtin; refine wpList_append_sep1 h4 1 rfl (by rfl) _ _ 29 rfl Tryd.underlying29 hi0 hz0 hz1 hz2 rfl (by rfl) _ _ (by rfl) (by simp) (by rfl) _ (by unfold maxLen; omega) (by omega) ?_)
          intro gg capg w5 h5
          have h5 : Sep No w w5 [stR b 100 4294967295 S' T', rowAt 31 1 (.slice (some ⟨gg, 0, none⟩) (L + 1) capg) (L + 1) (hrow R ++ [.int .u64 hd])] := h5
          have H5 := Lib.hid h5
          have hpc := pages_call (x + 2) w5
          rw [cpages_small (n := x + 2) (by omega) (by omega)] at hpc
          have c0 := h5.old HC.out
          clear h4 h5 hi0 hz0 hz1 hz2
          go_wp2_with fail
          refine hpc.mono ?_
          rintro e w6 ⟨rfl, hm6⟩
          have hw := stwords_call (H5.out.more hm6) 0 rfl
          rw [HE.out] at hw
          clear hpc hm6 c0
          go_wp2_with fail
          refine hw.mono ?_
          rintro e w7 ⟨rfl, h7⟩
          have H7 : Hid (CostRel1 w b (.slice (some ⟨gg, 0, none⟩) (L + 1) capg) (j + 1) w7) := HY.out _ _ _ h7
          clear hw h7 H5 HY
          go_wp2
          go_roundw
          case rel => exact ⟨j + 1, by go_num, by omega, H7.out⟩
          case measure => simp [RowKit.intOf]; omega
        | small hs sp epg =>
          rw [cof_small (by omega) (by omega)] at hoc
          obtain ⟨c, hcc⟩ : ∃ c : Nat, clsOf (x + 2) = c := ⟨_, rfl⟩
          rw [hcc] at hoc sp
          have HSP := Lib.hid sp
          rw [hn] at epg
          have HE := Lib.hid epg
          clear hcc sp epg hn
          go_wp2_with fail
          refine hoc.mono ?_
          rintro e w3 ⟨rfl, hm3⟩
          have h3 := H2.out.more hm3
          have c0 := h3.old HC.out
          have hsp := stspare_call h3 0 rfl (c : Nat)
          rw [HSP.out] at hsp
          have H3 := Lib.hid h3
          clear hoc hm3 H2 h3 HSP
          go_wp2_with fail
          refine hsp.mono ?_
          rintro e w4 ⟨rfl, hm4⟩
          have h4 := H3.out.more hm4
          have c0 := h4.old HC.out
          have hmk := HM.out w4 h4
          clear hsp hm4 h4 H3 HM
          go_wp2_with fail
          refine hmk.mono ?_
          rintro e w5 ⟨rfl, h4⟩
          have h4 : Sep No w w5 [stR b 100 4294967295 S' T', rowAt 31 1 (.slice sl L cl) L (hrow R)] := h4
          clear hmk c0
          have dn : ((64 * ((n + 1 : Nat) : Int)) != (64 * (n : Int) + 64 * 1)) = false := bneF (by omega)
          have ew1 : IntKind.i64.wrap (64 * (n : Int) + 64) = 64 * (n : Int) + 64 := by rw [IntKind.wrap_i64]; omega
          obtain ⟨hi0, hz0, hz1, hz2⟩ := HI.out
          go_wp2_with (at_builtin; refine wpList_append_sep1 h4 1 rfl (by rfl) _ _ 29 rfl Tryd.underlying29 hi0 hz0 hz1 hz2 rfl (by rfl) _ _ (by rfl) (by simp) (by rfl) _ (by unfold maxLen; omega) (by omega) ?_)
          intro gg capg w5 h5
          have h5 : Sep No w w5 [stR b 100 4294967295 S' T', rowAt 31 1 (.slice (some ⟨gg, 0, none⟩) (L + 1) capg) (L + 1) (hrow R ++ [.int .u64 hd])] := h5
          have H5 := Lib.hid h5
          have hpc := pages_call (x + 2) w5
          rw [cpages_small (n := x + 2) (by omega) (by omega)] at hpc
          have c0 := h5.old HC.out
          clear h4 h5 hi0 hz0 hz1 hz2
          go_wp2_with fail
          refine hpc.mono ?_
          rintro e w6 ⟨rfl, hm6⟩
          have hw := stwords_call (H5.out.more hm6) 0 rfl
          rw [HE.out] at hw
          clear hpc hm6 c0
          go_wp2_with fail
          refine hw.mono ?_
          rintro e w7 ⟨rfl, h7⟩
          have H7 : Hid (CostRel1 w b (.slice (some ⟨gg, 0, none⟩) (L + 1) capg) (j + 1) w7) := HY.out _ _ _ h7
          clear hw h7 H5 HY
          go_wp2
          go_roundw
          case rel => exact ⟨j + 1, by go_num, by omega, H7.out⟩
          case measure => simp [RowKit.intOf]; omega
        | large hs epg =>
          rw [cof_large (by omega) (by omega)] at hoc
          rw [hn] at epg
          have HE := Lib.hid epg
          have hpo : ((Slb.pagesOf (x + 2) : Nat) : Int) = (x + 2 + 65) / 64 := by unfold Slb.pagesOf; rw [if_neg (by omega)]; omega
          have hpo2 := pagesOf_le (n := x + 2) (by omega)
          obtain ⟨pn, hpn⟩ : ∃ pn, Slb.pagesOf (x + 2) = pn := ⟨_, rfl⟩
          rw [hpn] at hpo hpo2 HE
          have HPP : Hid (cpages (x + 2) = (((pn : Nat) : Int), 0)) := by
            show _ = _
            rw [cpages_large (by omega) (by omega), hpo]
          clear epg hn hpo hpn
          go_wp2_with fail
          refine hoc.mono ?_
          rintro e w3 ⟨rfl, hm3⟩
          have h3 := H2.out.more hm3
          have c0 := h3.old HC.out
          have hmk := HM.out w3 h3
          clear hoc hm3 H2 h3 HM
          go_wp2_with fail
          refine hmk.mono ?_
          rintro e w5 ⟨rfl, h4⟩
          have h4 : Sep No w w5 [stR b 100 4294967295 S' T', rowAt 31 1 (.slice sl L cl) L (hrow R)] := h4
          clear hmk c0
          have dn : ((64 * ((n + pn : Nat) : Int)) != (64 * (n : Int) + 64 * (pn : Int))) = false := bneF (by omega)
          have ew0 : IntKind.i64.wrap (64 * (pn : Int)) = 64 * (pn : Int) := by rw [IntKind.wrap_i64]; omega
          have ew1 : IntKind.i64.wrap (64 * (n : Int) + 64 * (pn : Int)) = 64 * (n : Int) + 64 * (pn : Int) := by rw [IntKind.wrap_i64]; omega
          obtain ⟨hi0, hz0, hz1, hz2⟩ := HI.out
          go_wp2_with (at_builtin; refine wpList_append_sep1 h4 1 rfl (by rfl) _ _ 29 rfl Tryd.underlying29 hi0 hz0 hz1 hz2 rfl (by rfl) _ _ (by rfl) (by simp) (by rfl) _ (by unfold maxLen; omega) (by omega) ?_)
          intro gg capg w5 h5
          have h5 : Sep No w w5 [stR b 100 4294967295 S' T', rowAt 31 1 (.slice (some ⟨gg, 0, none⟩) (L + 1) capg) (L + 1) (hrow R ++ [.int .u64 hd])] := h5
          have H5 := Lib.hid h5
          have hpc := pages_call (x + 2) w5
          rw [HPP.out] at hpc
          have c0 := h5.old HC.out
          clear h4 h5 hi0 hz0 hz1 hz2
          go_wp2_with fail
          refine hpc.mono ?_
          rintro e w6 ⟨rfl, hm6⟩
          have hw := stwords_call (H5.out.more hm6) 0 rfl
          rw [HE.out] at hw
          clear hpc hm6 c0
          go_wp2_with fail
          refine hw.mono ?_
          rintro e w7 ⟨rfl, h7⟩
          have H7 : Hid (CostRel1 w b (.slice (some ⟨gg, 0, none⟩) (L + 1) capg) (j + 1) w7) := HY.out _ _ _ h7
          clear hw h7 H5 HY
          go_wp2
          go_roundw
          case rel => exact ⟨j + 1, by go_num, by omega, H7.out⟩
          case measure => simp [RowKit.intOf]; omega
    · obtain rfl : j = len0 := by omega
      have hst : Hid (CostRel2 w b (.slice sl L cl) L 0 wr) := ⟨S, T, H, R, I, hL, fun k r hk => ⟨fun _ => Nat.zero_le _, fun _ => hRa r (List.mem_of_getElem? hk)⟩, h⟩
      have hLb : L ≤ 30 := by omega
      clear h I K hRj hRa hRw hlt HR hL
      go_wp2_with fail
      go_loopw [16] (fun iv wr => ∃ i : Nat, iv = .int .i64 i ∧ i ≤ L ∧ CostRel2 w b (.slice sl L cl) L i wr) (fun iv _ => L - (RowKit.intOf iv).toNat)
      case atStart => exact ⟨0, rfl, Nat.zero_le _, hst.out⟩
      case round =>
        obtain ⟨i, rfl, hi, S, T, H, R, I, hRL, hRa, h⟩ := hrel
        clear hst
        by_cases hlt : i < L
        · have hiR : R[i]? = some (R[i]'(by omega)) := List.getElem?_eq_getElem _
          obtain ⟨r, hr⟩ : ∃ r, R[i]'(by omega) = r := ⟨_, rfl⟩
          rw [hr] at hiR
          obtain ⟨S', T', H', D⟩ := I.dropOk hiR ((hRa i r hiR).2 (Nat.le_refl _))
          have hrg := I.rng hiR
          have hc := stdrop_call h 0 rfl I (hh := r.h) ⟨hrg.1, hrg.2.1⟩ D
          obtain ⟨gg, rfl, cx, _⟩ := h.item 1 rfl (o := i) (x := .int .u64 r.h) (by rw [List.getElem?_map, hiR]; rfl)
          have hY : Hid (∀ w2, Sep No w w2 [stR b 100 4294967295 S' T', rowAt 31 1 (.slice (some ⟨gg, 0, none⟩) L cl) L (hrow R)] → CostRel2 w b (.slice (some ⟨gg, 0, none⟩) L cl) L (i + 1) w2) := fun w2 h2 => by
            refine ⟨S', T', H', _, D.inv, by rw [List.length_set, hRL], fun k q hk => ?_, ?_⟩
            · rw [List.getElem?_set] at hk
              by_cases e : i = k
              · subst e
                rw [if_pos rfl, if_pos (by omega)] at hk
                cases hk
                exact ⟨fun h0 => absurd h0 (show ¬ (0 : Int) ≤ -1 by omega), fun h0 => by omega⟩
              · rw [if_neg e] at hk
                have := hRa k q hk
                exact this.trans ⟨fun h0 => by omega, fun h0 => by omega⟩
            · have e : hrow (R.set i { r with a := -1 }) = hrow R := by
                unfold hrow
                rw [List.map_set]
                exact StInv.set_self (by simp [hiR])
              rw [e]
              exact h2
          obtain ⟨hh, hhe⟩ : ∃ hh, r.h = hh := ⟨_, rfl⟩
          rw [hhe] at hc cx
          clear h I hRL hRa hiR hr D hrg hhe
          go_wp2_with fail
          refine hc.mono ?_
          rintro e w2 ⟨rfl, h2⟩
          have H3 := Lib.hid (hY.out w2 h2)
          clear hc h2 hY cx
          go_wp2
          go_roundw
          case rel => exact ⟨i + 1, by go_num, by omega, H3.out⟩
          case measure => simp [RowKit.intOf]; omega
        · obtain rfl : i = L := by omega
          have hnil : liveR R = [] := by
            unfold liveR
            rw [List.filter_eq_nil_iff]
            intro r hr h0
            obtain ⟨k, hk⟩ := List.mem_iff_getElem?.1 hr
            have := (hRa k r hk).1 (by simpa using h0)
            have := (List.getElem?_eq_some_iff.1 hk).1
            omega
          have hw := stwords_call h 0 rfl
          rw [(I.empty_pg hnil).2] at hw
          have hw : Calls Tryd.prog 15 #[.pointer (some ⟨b, 0, none⟩)] wr fun e w' => e = .returned (.int .i64 0) ∧ Sep No w w' [stR b 100 4294967295 S T, rowAt 31 1 (.slice sl i cl) i (hrow R)] := hw
          have hal : (stAll S).length = 0 := by rw [I.all_len, hnil]; rfl
          have HA := Lib.hid hal
          clear h I hRL hRa hnil hlt hal
          go_wp2_with fail
          refine hw.mono ?_
          rintro e w2 ⟨rfl, h2⟩
          have ha := stall_call h2 0 rfl
          rw [HA.out] at ha
          clear hw h2
          go_wp2_with fail
          refine ha.mono ?_
          rintro e w3 ⟨sa, ca, rfl, h3⟩
          have HM := Lib.hid h3.mod
          clear ha h3
          have ha := awake06_call w3 (HT.out.mod HM.out)
          go_wp2_with fail
          refine ha.mono ?_
          rintro e w9 ⟨rfl, hm9⟩
          have H9 := Lib.hid (HM.out.trans' hm9)
          clear ha hm9
          go_wp2
          go_ret
          exact ⟨rfl, H9.out.below _ (Nat.le_refl _) (fun _ _ x => x)⟩

theorem storeCosts_walk (s0 : Option Addr) (len0 cap0 : Nat) (z0 : List (List Int)) (w : World) (R : Recs w s0 len0 [some .i64] z0) (hT : Tab64 w) :
    Calls Tryd.prog 4 #[.slice s0 len0 cap0] w fun e w' => e = .returned (.bool true) ∧ Below w.heap.size w w' := by
  by_cases h : len0 ≤ 30
  · exact costs_in s0 len0 cap0 z0 w R h hT
  · have d : decide ((30 : Int) < (len0 : Int)) = true := ltT (by omega)
    have HM := Lib.hid (Mod.refl No w)
    have HT := Lib.hid hT
    clear R hT
    go_enter Tryd.func4, Tryd.ntmps4
    have ha := awake06_call w (HT.out.mod HM.out)
    go_wp2_with fail
    refine ha.mono ?_
    rintro e w9 ⟨rfl, hm9⟩
    have H9 := Lib.hid (HM.out.trans' hm9)
    clear ha hm9
    go_wp2
    go_ret
    exact ⟨rfl, H9.out.below _ (Nat.le_refl _) (fun _ _ x => x)⟩
end Go.Proofs.YtfmcddomciicdaaDoor
