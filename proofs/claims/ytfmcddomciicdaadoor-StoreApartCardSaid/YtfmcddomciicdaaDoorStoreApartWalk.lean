/- StoreApart, walked. Condition: the table of math/bits holds what its initialiser lays. -/
import Derived.Test.YtfmcddomciicdaaDoorApartSpec
import Derived.Test.YtfmcddomciicdaaDoorMakeSep
import Derived.Test.YtfmcddomciicdaaDoorAwake06
import Derived.Test.YtfmcddomciicdaaDoorPutAll
import Derived.Test.YtfmcddomciicdaaDoorArgs
import Derived.Deep.RegionHeld3
import Derived.Laws.Cover3
import Derived.Deep.DeepCutAuto
import Derived.Deep.CutBlock
set_option linter.unusedVariables false
set_option linter.unusedSimpArgs false
set_option maxRecDepth 100000
namespace Go.Proofs.YtfmcddomciicdaaDoor
open Go Go.RowKit

def ARel (w : World) (b : Nat) (m : Int) (lv wv : Value) (j : Nat) (wr : World) : Prop := ∃ (n : Nat) (S : Slb) (T : HTbl) (H : List Ent) (R : List Rc) (vs : List Value), n ≤ j ∧ Ap w wr b m n lv wv S T H R vs

theorem infoHdl : (Tryd.prog.info? 31).map (fun i => (i.zero, i.size, i.bytes)) = some (some (.int .u64 0), 1, 8) := by kernel_rfl
theorem infoRow : (Tryd.prog.info? 48).map (fun i => (i.zero, i.size, i.bytes)) = some (some (.slice none 0 0), 1, 24) := by kernel_rfl

theorem neqRow (a : Option Addr) (l c : Nat) (w : World) : (binOp .neq 48 (.slice a l c) (.slice none 0 0)).run Tryd.prog w = .ok (.bool (!a.isNone)) w := run_neq_slice_nil w _ _ a l c Tryd.underlying48
theorem eqlRow (a : Option Addr) (l c : Nat) (w : World) : (binOp .eql 48 (.slice a l c) (.slice none 0 0)).run Tryd.prog w = .ok (.bool a.isNone) w := by
  simp only [binOp]
  simp [run_equal_slice_nil w _ _ a l c Tryd.underlying48]
attribute [local go_sem] neqRow eqlRow

/-- Which record an operation speaks of: none, or the x-th. -/
def KRel (n : Nat) (x : Value) : Prop := (n = 0 ∧ x = .int .i64 (-1)) ∨ ∃ k : Nat, k < n ∧ x = .int .i64 k

set_option maxRecDepth 100000 in
set_option maxHeartbeats 40000000 in
theorem sapart_in (q m : Int) (s2 : Option Addr) (len2 cap2 : Nat) (z2 : List (List Int)) (w : World) (hq : 0 ≤ q ∧ q ≤ 4000) (hm : 1 ≤ m ∧ m ≤ 1000) (R0 : Recs w s2 len2 [some .i64, some .i64, some .i64, some .u64] z2) (hlen : len2 ≤ 60) (hT : Tab64 w) :
    Calls Tryd.prog 5 #[.int .i64 q, .int .i64 m, .slice s2 len2 cap2] w fun e w' => e = .returned (.bool true) ∧ Below w.heap.size w w' := by
  have d1 : decide (q < 0) = false := ltF (by omega)
  have d2 : decide (4000 < q) = false := ltF (by omega)
  have d3 : decide (m < 1) = false := ltF (by omega)
  have d4 : decide (1000 < m) = false := ltF (by omega)
  have d5 : decide ((60 : Int) < (len2 : Int)) = false := ltF (by omega)
  have HR := Lib.hid R0
  have HT := Lib.hid hT
  clear R0 hT
  go_enter Tryd.func5, Tryd.ntmps5
  go_wp2_with fail
  refine (stnew_call (Sep.nil w) q m 4294967295 (by omega) (by omega) (by omega) (by omega) (by omega) (by omega)).mono ?_
  rintro e w1 ⟨b, rfl, h1⟩
  have hst : Hid (ARel w b m (.slice none 0 0) (.slice none 0 0) 0 w1) := ⟨0, _, _, [], [], [], Nat.le_refl _, StInv.start (by omega) (by omega) (by omega) (by omega) (by omega) (by omega), rfl, rfl, by simp, (h1.pushNil 31 1).pushNil 48 1⟩
  clear h1 d1 d2 d3 d4
  go_wp2_with fail
  go_loopw [9, 10, 11] (fun lv wv i wr => ∃ j : Nat, i = .int .i64 j ∧ j ≤ len2 ∧ ARel w b m lv wv j wr) (fun _ _ i _ => len2 - (RowKit.intOf i).toNat)
  case atStart => exact ⟨0, rfl, Nat.zero_le _, hst.out⟩
  case round =>
    obtain ⟨j, rfl, hj, n, S, T, H, R, vs, hnj, A⟩ := hrel
    clear hst
    obtain ⟨sl, cl, rfl⟩ := A.sep.form 1 rfl
    obtain ⟨sw, cw, rfl⟩ := A.sep.form 2 rfl
    by_cases hlt : j < len2
    · obtain ⟨bb, off, rfl, hb, hc⟩ := HR.out.cells (by omega)
      have hzj : z2[j]? = some (z2[j]'(by rw [HR.out.count]; exact hlt)) := List.getElem?_eq_getElem _
      obtain ⟨hrl, hro⟩ := HR.out.ok _ (List.mem_of_getElem? hzj)
      generalize z2[j]'(by rw [HR.out.count]; exact hlt) = r at *
      match r, hrl with
      | [d, nn, kk, x], _ =>
      have c0 := A.sep.old (hc j _ hzj 0 _ d rfl rfl)
      have c1 := A.sep.old (hc j _ hzj 1 _ nn rfl rfl)
      have c2 := A.sep.old (hc j _ hzj 2 _ kk rfl rfl)
      have c3 := A.sep.old (hc j _ hzj 3 _ x rfl rfl)
      have hd := bounds_i64 (hro 0 _ d rfl rfl)
      have hn := bounds_i64 (hro 1 _ nn rfl rfl)
      have hk := bounds_i64 (hro 2 _ kk rfl rfl)
      have hx := bounds_u64 (hro 3 _ x rfl rfl)
      simp only [List.length_cons, List.length_nil, Nat.add_zero, Nat.zero_add, Nat.reduceAdd, fv] at c0 c1 c2 c3
      have hbw : bb < wr.heap.size := by have := A.sep.size; omega
      clear hc hzj hro hb
      obtain ⟨ob, hob⟩ : ∃ ob, wr.heap.size = ob := ⟨_, rfl⟩
      have HH := Lib.hid (And.intro A (A.sep.pushCells #[.int .i64 d, .int .i64 nn, .int .i64 kk, .int .u64 x] 47))
      clear A
      go_upto_if 67 with fail
      go_cut [13] (fun xv wx => KRel n xv ∧ wx = wr.alloc (.cells #[.int .i64 d, .int .i64 nn, .int .i64 kk, .int .u64 x] 47))
      case first =>
        as_aux_lemma =>
          obtain ⟨W1, hW1⟩ : ∃ W1, wr.alloc (.cells #[.int .i64 d, .int .i64 nn, .int .i64 kk, .int .u64 x] 47) = W1 := ⟨_, rfl⟩
          rw [hW1, hob] at HH
          have hkk : (APs b m S T (.slice sl n cl) (.slice sw n cw) n vs R ++ [cellsAt ob #[.int .i64 d, .int .i64 nn, .int .i64 kk, .int .u64 x] 47])[n + 3]? = some (cellsAt ob #[.int .i64 d, .int .i64 nn, .int .i64 kk, .int .u64 x] 47) := by
            have hl : (List.zipWith inn vs R).length = n := by rw [List.length_zipWith, HH.out.1.len, HH.out.1.vlen, Nat.min_self]
            show (List.zipWith inn vs R ++ [_])[n]? = _
            rw [List.getElem?_append_right (by omega), hl, Nat.sub_self]
            rfl
          have k1 := (HH.out.2.cell _ hkk 1 (v := .int .i64 nn) rfl).1
          have hn60 : n ≤ 60 := by omega
          clear hkk HH
          by_cases hn0 : n = 0
          · subst hn0
            go_wp2_with fail
            go_meet
            case rel => exact ⟨.inl ⟨rfl, rfl⟩, by first | exact hW1.symm | rfl⟩
          · have hm2 : -(n : Int) < nn.tmod (n : Int) ∧ nn.tmod (n : Int) < (n : Int) := by
              have h1 := Int.tmod_lt_of_pos nn (show (0 : Int) < (n : Int) by omega)
              have h2 := Int.tmod_lt_of_pos (-nn) (show (0 : Int) < (n : Int) by omega)
              rw [Int.neg_tmod] at h2
              omega
            have hz : ((n : Int) == 0) = false := beqF (by omega)
            have dL : decide ((0 : Int) < (n : Int)) = true := ltT (by omega)
            obtain ⟨mm, hmm⟩ : ∃ y, nn.tmod (n : Int) = y := ⟨_, rfl⟩
            rw [hmm] at hm2
            have e1 : IntKind.i64.wrap mm = mm := by rw [IntKind.wrap_i64]; omega
            have e2 : IntKind.i64.wrap (mm + (n : Int)) = mm + (n : Int) := by rw [IntKind.wrap_i64]; omega
            have h3 : 0 ≤ (mm + (n : Int)).tmod (n : Int) ∧ (mm + (n : Int)).tmod (n : Int) < (n : Int) := by
              rw [Int.tmod_eq_emod_of_nonneg (by omega)]
              exact ⟨Int.emod_nonneg _ (by omega), Int.emod_lt_of_pos _ (by omega)⟩
            obtain ⟨y, hy⟩ := Int.eq_ofNat_of_zero_le h3.1
            have e3 : IntKind.i64.wrap (y : Int) = (y : Int) := by rw [IntKind.wrap_i64]; omega
            rw [hy] at h3
            have hyn : y < n := by omega
            clear hn0 hm2 h3
            go_wp2_with fail
            go_meet
            case rel => exact ⟨.inr ⟨y, hyn, by go_num⟩, by first | exact hW1.symm | rfl⟩
      case rest =>
        as_aux_lemma =>
          obtain ⟨hkr, rfl⟩ := hcut
          rw [hob] at HH
          have HKR := Lib.hid hkr
          clear hkr c0 c1 c2 c3
          go_upto_block 2 with fail
          go_cut [9, 10] (fun l ws wx => ARel w b m l ws (j + 1) wx)
          case first =>
            as_aux_lemma =>
              obtain ⟨W1, hW1⟩ : ∃ W1, wr.alloc (.cells #[.int .i64 d, .int .i64 nn, .int .i64 kk, .int .u64 x] 47) = W1 := ⟨_, rfl⟩
              rw [hW1] at HH ⊢
              have HA : Hid (Ap w W1 b m n (.slice sl n cl) (.slice sw n cw) S T H R vs) := HH.out.1.more (by rw [← hW1]; exact (Mod.refl No wr).alloc _)
              have HH : Hid (Sep No w W1 (APs b m S T (.slice sl n cl) (.slice sw n cw) n vs R ++ [cellsAt ob #[.int .i64 d, .int .i64 nn, .int .i64 kk, .int .u64 x] 47])) := HH.out.2
              have HO : Hid (∀ (S' : Slb) (T' : HTbl), ((APs b m S T (.slice sl n cl) (.slice sw n cw) n vs R ++ [cellsAt ob #[.int .i64 d, .int .i64 nn, .int .i64 kk, .int .u64 x] 47]).set 0 (stR b m 4294967295 S' T'))[n + 3]? = some (cellsAt ob #[.int .i64 d, .int .i64 nn, .int .i64 kk, .int .u64 x] 47)) := fun S' T' => by
                have hl : (List.zipWith inn vs R).length = n := by rw [List.length_zipWith, HA.out.len, HA.out.vlen, Nat.min_self]
                show (List.zipWith inn vs R ++ [_])[n]? = _
                rw [List.getElem?_append_right (by omega), hl, Nat.sub_self]
                rfl
              have hn60 : n ≤ 60 := by omega
              have k0 := (HH.out.cell _ (HO.out S T) 0 (v := .int .i64 d) rfl).1
              have k1 := (HH.out.cell _ (HO.out S T) 1 (v := .int .i64 nn) rfl).1
              have k2 := (HH.out.cell _ (HO.out S T) 2 (v := .int .i64 kk) rfl).1
              have k3 := (HH.out.cell _ (HO.out S T) 3 (v := .int .u64 x) rfl).1
              clear hW1 hob hbw
              by_cases hd1 : d = 1
              · subst hd1
                clear HKR
                obtain ⟨hd', er, S', T', H', R', M⟩ := HA.out.inv.made kk
                have hc := stmake_call HH.out 0 rfl (HT.out.mod HH.out.mod) M
                by_cases he : er = 0
                · subst he
                  obtain ⟨hk0, hk1, -, a, hR'⟩ := M.good rfl
                  obtain ⟨c, rfl⟩ := Int.eq_ofNat_of_zero_le hk0
                  have hI := M.inv
                  rw [hR', Int.toNat_natCast] at hI
                  have HI := Lib.hid hI
                  obtain ⟨i0, hi0, hz0, hz1, hz2⟩ := info_parts infoHdl
                  obtain ⟨i1, hi1, hy0, hy1, hy2⟩ := info_parts infoU64
                  obtain ⟨i2, hi2, hx0, hx1, hx2⟩ := info_parts infoRow
                  have hc1 : c ≤ 3998 := by omega
                  clear M hI hR' hk0 hk1 hk
                  go_wp2_with fail
                  refine hc.mono ?_
                  rintro e w2 ⟨rfl, h2⟩
                  clear hc k0 k1 k3
                  go_wp2_with (at_builtin; refine wpList_append_sep1 h2 1 rfl (by rfl) _ _ 29 rfl Tryd.underlying29 hi0 hz0 hz1 hz2 rfl (by rfl) _ _ (by rfl) (by simp) (by rfl) _ (by unfold maxLen; omega) (by omega) ?_)
                  intro g1 c1 w3 h3
                  have k2 := (h3.cell (n + 3) (HO.out S' T') 2 (v := .int .i64 (c : Int)) rfl).1
                  have h4 := Sep.left (Ps := _ :: _ :: _ :: List.zipWith inn vs R) (Qs := [_]) h3
                  clear h2 h3 hi0 hz0 hz1 hz2
                  go_wp2_with (at_make; refine wpList_make_sep h4 (by rfl) _ _ 48 rfl 30 Tryd.underlying48 hi1 hy0 hy1 rfl _ _ c (by rfl) (by rfl) rfl rfl (by rw [hy2]; omega) (by unfold maxLen; omega) ?_)
                  intro w5 h5
                  obtain ⟨g5, hg5⟩ : ∃ g5, w3.heap.size = g5 := ⟨_, rfl⟩
                  rw [hg5] at h5 ⊢
                  clear h4 hi1 hy0 hy1 hy2 hg5
                  go_wp2_with (at_builtin; refine wpList_append_sep1 h5 2 rfl (by rfl) _ _ 45 rfl Tryd.underlying45 hi2 hx0 hx1 hx2 rfl (by rfl) _ _ (by rfl) (by simp) (by rfl) _ (by unfold maxLen; omega) (by omega) ?_)
                  intro g6 c6 w6 h6
                  have H6 : Hid (ARel w b m (.slice (some ⟨g1, 0, none⟩) (n + 1) c1) (.slice (some ⟨g6, 0, none⟩) (n + 1) c6) (j + 1) w6) := ⟨n + 1, _, _, _, _, _, by omega, HA.out.made HI.out h6⟩
                  clear h5 h6 hi2 hx0 hx1 hx2 k2
                  go_wp2_with fail
                  go_meet
                  case rel => exact H6.out
                · have he' : (er == 0) = false := beqF he
                  obtain ⟨-, hR', hT', -⟩ := M.err he
                  subst hR' hT'
                  have HI := Lib.hid M.inv
                  clear M he
                  go_wp2_with fail
                  refine hc.mono ?_
                  rintro e w2 ⟨rfl, h2⟩
                  have H2 : Hid (ARel w b m (.slice sl n cl) (.slice sw n cw) (j + 1) w2) := ⟨n, _, _, _, _, vs, by omega, HA.out.same HI.out (Sep.left (Qs := [_]) h2)⟩
                  clear hc h2 k0 k1 k2 k3
                  go_wp2_with fail
                  go_meet
                  case rel => exact H2.out
              · have d1' : (d == 1) = false := beqF hd1
                clear hd1
                have HSAME : Hid (ARel w b m (.slice sl n cl) (.slice sw n cw) (j + 1) W1) := ⟨n, _, _, _, _, vs, by omega, HA.out⟩
                rcases HKR.out with ⟨-, rfl⟩ | ⟨y, hyn, rfl⟩
                · clear k1 k2 k3
                  have e2 : (d == 2) = true ∨ (d == 2) = false := by cases (d == 2) <;> simp
                  have e3 : (d == 3) = true ∨ (d == 3) = false := by cases (d == 3) <;> simp
                  have e5 : (d == 5) = true ∨ (d == 5) = false := by cases (d == 5) <;> simp
                  rcases e2 with e2 | e2 <;> rcases e3 with e3 | e3 <;> rcases e5 with e5 | e5
                  all_goals
                    go_wp2_with fail
                    go_meet
                    case rel => exact HSAME.out
                · obtain ⟨r, v, hr, hv, ok, hh, hin⟩ := HA.out.at_ hyn
                  obtain ⟨gl, rfl, cl0, _⟩ := HA.out.sep.item 1 rfl (o := y) (x := .int .u64 r.h) hh
                  obtain ⟨gw, rfl, cw0, fw⟩ := HA.out.sep.item 2 rfl (o := y) (x := v) hv
                  have hrg := HA.out.inv.rng hr
                  have hy' : (y : Int) < (n : Int) := by omega
                  have dy : decide ((0 : Int) ≤ (y : Int)) = true := leT (by omega)
                  by_cases hd2 : d = 2
                  · subst hd2
                    by_cases h0 : 0 ≤ r.a
                    · obtain ⟨S', T', H', D⟩ := HA.out.inv.dropOk hr h0
                      obtain ⟨gr, rfl⟩ := ok.live h0
                      have hc := stdrop_call HH.out.drew 0 rfl HA.out.inv (hh := r.h) ⟨hrg.1, hrg.2.1⟩ D
                      have HI := Lib.hid (And.intro D.inv (And.intro hr (And.intro hh hv)))
                      obtain ⟨n', hn'⟩ : ∃ n', r.w.length = n' := ⟨_, rfl⟩
                      rw [hn'] at cw0 HI
                      clear D hr hv ok hh hin hrg k1 k2 k3 fw h0 hn'
                      go_wp2_with fail
                      refine wp_region_held_drew (S := fun w' => w'.cell? ⟨gl, y, none⟩ = some (.int .u64 r.h) ∧ w'.cell? ⟨gw, y, none⟩ = some (.slice (some ⟨gr, 0, none⟩) n' n')) (by kernel_rfl) ⟨cl0, cw0⟩ (fun hHeld => ?_)
                      clear cl0 cw0 k0
                      refine wpAnyH_takeD (i := 0) (v := ?_) (some 110) rfl (by rfl) (by kernel_rfl) (by kernel_rfl) (by kernel_rfl) (fun _ _ _ h => h) (Or.inl ⟨by rfl, ?_⟩) (by assumption) ?_
                      rotate_left
                      · intro w hSw
                        try dsimp only at hSw
                        go_simp
                        try with_reducible rfl
                      simp only [Act.put, List.setIfInBounds_toArray, List.set_cons_zero, List.set_cons_succ]
                      refine wpAnyH_takeD (i := 1) (v := ?_) (some 111) rfl (by rfl) (by kernel_rfl) (by kernel_rfl) (by kernel_rfl) (fun _ _ _ h => h) (Or.inl ⟨by rfl, ?_⟩) (by assumption) ?_
                      rotate_left
                      · intro w hSw
                        try dsimp only at hSw
                        go_simp
                        try with_reducible rfl
                      simp only [Act.put, List.setIfInBounds_toArray, List.set_cons_zero, List.set_cons_succ]
                      refine wpAnyH_takeD (i := 2) (v := ?_) (some 112) rfl (by rfl) (by kernel_rfl) (by kernel_rfl) (by kernel_rfl) (fun _ _ _ h => h) (Or.inl ⟨by rfl, ?_⟩) (by assumption) ?_
                      rotate_left
                      · intro w hSw
                        try dsimp only at hSw
                        go_simp
                        try with_reducible rfl
                      simp only [Act.put, List.setIfInBounds_toArray, List.set_cons_zero, List.set_cons_succ]
                      refine wpAnyH_takeD (i := 3) (v := ?_) (some 113) rfl (by rfl) (by kernel_rfl) (by kernel_rfl) (by kernel_rfl) (fun _ _ _ h => h) (Or.inl ⟨by rfl, ?_⟩) (by assumption) ?_
                      rotate_left
                      · intro w hSw
                        try dsimp only at hSw
                        go_simp
                        try with_reducible rfl
                      simp only [Act.put, List.setIfInBounds_toArray, List.set_cons_zero, List.set_cons_succ]
                      refine wpAnyH_takeD (i := 4) (v := ?_) (some 114) rfl (by rfl) (by kernel_rfl) (by kernel_rfl) (by kernel_rfl) (fun _ _ _ h => h) (Or.inl ⟨by rfl, ?_⟩) (by assumption) ?_
                      rotate_left
                      · intro w hSw
                        try dsimp only at hSw
                        go_simp
                        try with_reducible rfl
                      simp only [Act.put, List.setIfInBounds_toArray, List.set_cons_zero, List.set_cons_succ]
                      refine wpAnyH_takeD (i := 7) (v := ?_) (some 117) rfl (by rfl) (by kernel_rfl) (by kernel_rfl) (by kernel_rfl) (fun _ _ _ h => h) (Or.inl ⟨by rfl, ?_⟩) (by assumption) ?_
                      rotate_left
                      · intro w hSw
                        try dsimp only at hSw
                        go_simp
                        try with_reducible rfl
                      simp only [Act.put, List.setIfInBounds_toArray, List.set_cons_zero, List.set_cons_succ]
                      refine wpAnyH_takeD (i := 8) (v := ?_) (some 118) rfl (by rfl) (by kernel_rfl) (by kernel_rfl) (by kernel_rfl) (fun _ _ _ h => h) (Or.inl ⟨by rfl, ?_⟩) (by assumption) ?_
                      rotate_left
                      · intro w hSw
                        try dsimp only at hSw
                        go_simp
                        try with_reducible rfl
                      simp only [Act.put, List.setIfInBounds_toArray, List.set_cons_zero, List.set_cons_succ]
                      refine wpAnyH_takeD (i := 9) (v := ?_) (some 119) rfl (by rfl) (by kernel_rfl) (by kernel_rfl) (by kernel_rfl) (fun _ _ _ h => h) (Or.inl ⟨by rfl, ?_⟩) (by assumption) ?_
                      rotate_left
                      · intro w hSw
                        try dsimp only at hSw
                        go_simp
                        try with_reducible rfl
                      simp only [Act.put, List.setIfInBounds_toArray, List.set_cons_zero, List.set_cons_succ]
                      refine wpAnyH_takeD (i := 10) (v := ?_) (some 120) rfl (by rfl) (by kernel_rfl) (by kernel_rfl) (by kernel_rfl) (fun _ _ _ h => h) (Or.inl ⟨by rfl, ?_⟩) (by assumption) ?_
                      rotate_left
                      · intro w hSw
                        try dsimp only at hSw
                        go_simp
                        try with_reducible rfl
                      simp only [Act.put, List.setIfInBounds_toArray, List.set_cons_zero, List.set_cons_succ]
                      refine wpAnyH_takeD (i := 11) (v := ?_) (some 121) rfl (by rfl) (by kernel_rfl) (by kernel_rfl) (by kernel_rfl) (fun _ _ _ h => h) (Or.inl ⟨by rfl, ?_⟩) (by assumption) ?_
                      rotate_left
                      · intro w hSw
                        try dsimp only at hSw
                        go_simp
                        try with_reducible rfl
                      simp only [Act.put, List.setIfInBounds_toArray, List.set_cons_zero, List.set_cons_succ]
                      refine wpAnyH_ready (rs := [5]) (by kernel_rfl) (by simp) ?_
                      refine AllReadyH.cons rfl (fun K hK => ?_) AllReadyH.nil
                      go_simp
                      refine (hc).mono ?_
                      rintro e w2 ⟨rfl, h2⟩
                      have h3 := Sep.left (Ps := _ :: _ :: _ :: List.zipWith inn vs R) (Qs := [_]) h2
                      obtain ⟨g1, eg1, cl1, -⟩ := h3.item 1 rfl (o := y) (x := .int .u64 r.h) HI.out.2.2.1
                      obtain ⟨g2, eg2, cw1, fw1⟩ := h3.item 2 rfl (o := y) HI.out.2.2.2
                      cases eg1
                      cases eg2
                      have fw2 := fw1 y
                      have HX := And.intro cl1 cw1
                      have H2 : Hid (ARel w b m (.slice (some ⟨gl, 0, none⟩) n cl) (.slice (some ⟨gw, 0, none⟩) n cw) (j + 1) (w2.setCell ⟨gw, y, none⟩ (.slice none 0 0))) := ⟨n, _, _, _, _, _, by omega, HA.out.drop HI.out.2.1 rfl HI.out.1 h3⟩
                      clear hc h2 h3 fw1 cl1
                      refine hK.out _ _ HX (fun _ => ?_)
                      clear hK K hHeld
                      have hHeld := HX
                      clear HX
                      try simp only [Act.put, List.setIfInBounds_toArray, List.set_cons_zero, List.set_cons_succ]
                      refine wpAnyH_takeD (i := 6) (v := ?_) (some 116) rfl (by rfl) (by kernel_rfl) (by kernel_rfl) (by kernel_rfl) (fun _ _ _ h => h) (Or.inl ⟨by rfl, ?_⟩) (by assumption) ?_
                      rotate_left
                      · intro w hSw
                        try dsimp only at hSw
                        go_simp
                        try with_reducible rfl
                      simp only [Act.put, List.setIfInBounds_toArray, List.set_cons_zero, List.set_cons_succ]
                      refine wpAnyH_takeD (i := 12) (v := ?_) (some 122) rfl (by rfl) (by kernel_rfl) (by kernel_rfl) (by kernel_rfl) (fun _ _ _ h => h) (Or.inl ⟨by rfl, ?_⟩) (by assumption) ?_
                      rotate_left
                      · intro w hSw
                        try dsimp only at hSw
                        go_simp
                        try with_reducible rfl
                      simp only [Act.put, List.setIfInBounds_toArray, List.set_cons_zero, List.set_cons_succ]
                      refine wpAnyH_done (by kernel_rfl) ?_ _
                      clear hHeld
                      go_wp2_with fail
                      go_meet
                      case rel => exact H2.out
                    · have hc := stdrop_call HH.out.drew 0 rfl HA.out.inv (hh := r.h) ⟨hrg.1, hrg.2.1⟩ (.stale (HA.out.inv.gone hr (by omega)) HA.out.inv)
                      obtain rfl := ok.gone h0
                      have HI := Lib.hid (And.intro hh hv)
                      clear hr hv ok hh hin hrg k1 k2 k3 fw h0
                      go_wp2_with fail
                      refine wp_region_held_drew (S := fun w' => w'.cell? ⟨gl, y, none⟩ = some (.int .u64 r.h) ∧ w'.cell? ⟨gw, y, none⟩ = some (.slice none 0 0)) (by kernel_rfl) ⟨cl0, cw0⟩ (fun hHeld => ?_)
                      clear cl0 cw0 k0
                      refine wpAnyH_takeD (i := 0) (v := ?_) (some 110) rfl (by rfl) (by kernel_rfl) (by kernel_rfl) (by kernel_rfl) (fun _ _ _ h => h) (Or.inl ⟨by rfl, ?_⟩) (by assumption) ?_
                      rotate_left
                      · intro w hSw
                        try dsimp only at hSw
                        go_simp
                        try with_reducible rfl
                      simp only [Act.put, List.setIfInBounds_toArray, List.set_cons_zero, List.set_cons_succ]
                      refine wpAnyH_takeD (i := 1) (v := ?_) (some 111) rfl (by rfl) (by kernel_rfl) (by kernel_rfl) (by kernel_rfl) (fun _ _ _ h => h) (Or.inl ⟨by rfl, ?_⟩) (by assumption) ?_
                      rotate_left
                      · intro w hSw
                        try dsimp only at hSw
                        go_simp
                        try with_reducible rfl
                      simp only [Act.put, List.setIfInBounds_toArray, List.set_cons_zero, List.set_cons_succ]
                      refine wpAnyH_takeD (i := 2) (v := ?_) (some 112) rfl (by rfl) (by kernel_rfl) (by kernel_rfl) (by kernel_rfl) (fun _ _ _ h => h) (Or.inl ⟨by rfl, ?_⟩) (by assumption) ?_
                      rotate_left
                      · intro w hSw
                        try dsimp only at hSw
                        go_simp
                        try with_reducible rfl
                      simp only [Act.put, List.setIfInBounds_toArray, List.set_cons_zero, List.set_cons_succ]
                      refine wpAnyH_takeD (i := 3) (v := ?_) (some 113) rfl (by rfl) (by kernel_rfl) (by kernel_rfl) (by kernel_rfl) (fun _ _ _ h => h) (Or.inl ⟨by rfl, ?_⟩) (by assumption) ?_
                      rotate_left
                      · intro w hSw
                        try dsimp only at hSw
                        go_simp
                        try with_reducible rfl
                      simp only [Act.put, List.setIfInBounds_toArray, List.set_cons_zero, List.set_cons_succ]
                      refine wpAnyH_takeD (i := 4) (v := ?_) (some 114) rfl (by rfl) (by kernel_rfl) (by kernel_rfl) (by kernel_rfl) (fun _ _ _ h => h) (Or.inl ⟨by rfl, ?_⟩) (by assumption) ?_
                      rotate_left
                      · intro w hSw
                        try dsimp only at hSw
                        go_simp
                        try with_reducible rfl
                      simp only [Act.put, List.setIfInBounds_toArray, List.set_cons_zero, List.set_cons_succ]
                      refine wpAnyH_takeD (i := 7) (v := ?_) (some 117) rfl (by rfl) (by kernel_rfl) (by kernel_rfl) (by kernel_rfl) (fun _ _ _ h => h) (Or.inl ⟨by rfl, ?_⟩) (by assumption) ?_
                      rotate_left
                      · intro w hSw
                        try dsimp only at hSw
                        go_simp
                        try with_reducible rfl
                      simp only [Act.put, List.setIfInBounds_toArray, List.set_cons_zero, List.set_cons_succ]
                      refine wpAnyH_takeD (i := 8) (v := ?_) (some 118) rfl (by rfl) (by kernel_rfl) (by kernel_rfl) (by kernel_rfl) (fun _ _ _ h => h) (Or.inl ⟨by rfl, ?_⟩) (by assumption) ?_
                      rotate_left
                      · intro w hSw
                        try dsimp only at hSw
                        go_simp
                        try with_reducible rfl
                      simp only [Act.put, List.setIfInBounds_toArray, List.set_cons_zero, List.set_cons_succ]
                      refine wpAnyH_takeD (i := 9) (v := ?_) (some 119) rfl (by rfl) (by kernel_rfl) (by kernel_rfl) (by kernel_rfl) (fun _ _ _ h => h) (Or.inl ⟨by rfl, ?_⟩) (by assumption) ?_
                      rotate_left
                      · intro w hSw
                        try dsimp only at hSw
                        go_simp
                        try with_reducible rfl
                      simp only [Act.put, List.setIfInBounds_toArray, List.set_cons_zero, List.set_cons_succ]
                      refine wpAnyH_takeD (i := 10) (v := ?_) (some 120) rfl (by rfl) (by kernel_rfl) (by kernel_rfl) (by kernel_rfl) (fun _ _ _ h => h) (Or.inl ⟨by rfl, ?_⟩) (by assumption) ?_
                      rotate_left
                      · intro w hSw
                        try dsimp only at hSw
                        go_simp
                        try with_reducible rfl
                      simp only [Act.put, List.setIfInBounds_toArray, List.set_cons_zero, List.set_cons_succ]
                      refine wpAnyH_takeD (i := 11) (v := ?_) (some 121) rfl (by rfl) (by kernel_rfl) (by kernel_rfl) (by kernel_rfl) (fun _ _ _ h => h) (Or.inl ⟨by rfl, ?_⟩) (by assumption) ?_
                      rotate_left
                      · intro w hSw
                        try dsimp only at hSw
                        go_simp
                        try with_reducible rfl
                      simp only [Act.put, List.setIfInBounds_toArray, List.set_cons_zero, List.set_cons_succ]
                      refine wpAnyH_ready (rs := [5]) (by kernel_rfl) (by simp) ?_
                      refine AllReadyH.cons rfl (fun K hK => ?_) AllReadyH.nil
                      go_simp
                      refine (hc).mono ?_
                      rintro e w2 ⟨rfl, h2⟩
                      have h3 := Sep.left (Ps := _ :: _ :: _ :: List.zipWith inn vs R) (Qs := [_]) h2
                      obtain ⟨g1, eg1, cl1, -⟩ := h3.item 1 rfl (o := y) (x := .int .u64 r.h) HI.out.1
                      obtain ⟨g2, eg2, cw1, fw1⟩ := h3.item 2 rfl (o := y) HI.out.2
                      cases eg1
                      cases eg2
                      have fw2 := fw1 y
                      have HX := And.intro cl1 cw1
                      have H2 : Hid (ARel w b m (.slice (some ⟨gl, 0, none⟩) n cl) (.slice (some ⟨gw, 0, none⟩) n cw) (j + 1) (w2.setCell ⟨gw, y, none⟩ (.slice none 0 0))) := by
                        refine ⟨n, _, _, _, _, vs, by omega, HA.out.inv, HA.out.len, HA.out.vlen, HA.out.vok, ?_⟩
                        have h4 := h3.setItem 2 rfl y (.slice none 0 0)
                        rw [lsame HI.out.2] at h4
                        exact h4
                      clear hc h2 h3 fw1 cl1
                      refine hK.out _ _ HX (fun _ => ?_)
                      clear hK K hHeld
                      have hHeld := HX
                      clear HX
                      try simp only [Act.put, List.setIfInBounds_toArray, List.set_cons_zero, List.set_cons_succ]
                      refine wpAnyH_takeD (i := 6) (v := ?_) (some 116) rfl (by rfl) (by kernel_rfl) (by kernel_rfl) (by kernel_rfl) (fun _ _ _ h => h) (Or.inl ⟨by rfl, ?_⟩) (by assumption) ?_
                      rotate_left
                      · intro w hSw
                        try dsimp only at hSw
                        go_simp
                        try with_reducible rfl
                      simp only [Act.put, List.setIfInBounds_toArray, List.set_cons_zero, List.set_cons_succ]
                      refine wpAnyH_takeD (i := 12) (v := ?_) (some 122) rfl (by rfl) (by kernel_rfl) (by kernel_rfl) (by kernel_rfl) (fun _ _ _ h => h) (Or.inl ⟨by rfl, ?_⟩) (by assumption) ?_
                      rotate_left
                      · intro w hSw
                        try dsimp only at hSw
                        go_simp
                        try with_reducible rfl
                      simp only [Act.put, List.setIfInBounds_toArray, List.set_cons_zero, List.set_cons_succ]
                      refine wpAnyH_done (by kernel_rfl) ?_ _
                      clear hHeld
                      go_wp2_with fail
                      go_meet
                      case rel => exact H2.out
                  by_cases hd3 : d = 3
                  · subst hd3
                    have hzl : (List.zipWith inn vs R).length = n := by rw [List.length_zipWith, HA.out.len, HA.out.vlen, Nat.min_self]
                    by_cases hok : 0 ≤ r.a ∧ 0 ≤ kk ∧ kk < (r.w.length : Int)
                    · obtain ⟨h0, hk0, hk1⟩ := hok
                      obtain ⟨gr, rfl⟩ := ok.live h0
                      obtain ⟨i, hik⟩ := Int.eq_ofNat_of_zero_le hk0
                      have hi : i < r.w.length := by omega
                      obtain ⟨S', P⟩ := HA.out.inv.putOk (v := x) hr h0 hi hx.1 (by omega)
                      rw [← hik] at P
                      have HIK := Lib.hid hik
                      have hc := stput_call HH.out.drew 0 rfl HA.out.inv (hh := r.h) ⟨hrg.1, hrg.2.1⟩ (by omega) (by omega) P
                      have HI := Lib.hid (And.intro P.inv (And.intro hr (And.intro hh (And.intro hv (And.intro h0 hi)))))
                      have HIN : Hid (∀ X : Res, ((APs b m S T (.slice (some ⟨gl, 0, none⟩) n cl) (.slice (some ⟨gw, 0, none⟩) n cw) n vs R ++ [cellsAt ob #[.int .i64 3, .int .i64 nn, .int .i64 kk, .int .u64 x] 47]).set 0 X)[y + 3]? = some (rowAt 30 1 (.slice (some ⟨gr, 0, none⟩) r.w.length r.w.length) r.w.length (r.w.map (Value.int .u64)))) := fun X => by
                        show (List.zipWith inn vs R ++ [_])[y]? = _
                        rw [List.getElem?_append_left (by omega), List.getElem?_zipWith, hr, hv]
                        exact congrArg some (inn_live h0)
                      obtain ⟨xo, hxo⟩ : ∃ xo, r.w[i]? = some xo := ⟨_, List.getElem?_eq_getElem hi⟩
                      have HXO := Lib.hid hxo
                      obtain ⟨n', hn'⟩ : ∃ n', r.w.length = n' := ⟨_, rfl⟩
                      have HN := Lib.hid hn'
                      rw [hn'] at cw0
                      have HIN' := Lib.hid (show i < n' by omega)
                      clear P hr hv ok hh hin hrg k1 fw h0 hi hk0 hk1 hn' hd2 hxo hik
                      go_wp2_with fail
                      refine wp_region_held_drew (S := fun w' => w'.cell? ⟨gl, y, none⟩ = some (.int .u64 r.h) ∧ w'.cell? ⟨ob, 2, none⟩ = some (.int .i64 kk) ∧ w'.cell? ⟨ob, 3, none⟩ = some (.int .u64 x)) (by kernel_rfl) ⟨cl0, k2, k3⟩ (fun hHeld => ?_)
                      clear cl0 cw0 k0 k2 k3
                      refine wpAnyH_takeD (i := 0) (v := ?_) (some 134) rfl (by rfl) (by kernel_rfl) (by kernel_rfl) (by kernel_rfl) (fun _ _ _ h => h) (Or.inl ⟨by rfl, ?_⟩) (by assumption) ?_
                      rotate_left
                      · intro w hSw
                        try dsimp only at hSw
                        go_simp
                        try with_reducible rfl
                      simp only [Act.put, List.setIfInBounds_toArray, List.set_cons_zero, List.set_cons_succ]
                      refine wpAnyH_takeD (i := 1) (v := ?_) (some 135) rfl (by rfl) (by kernel_rfl) (by kernel_rfl) (by kernel_rfl) (fun _ _ _ h => h) (Or.inl ⟨by rfl, ?_⟩) (by assumption) ?_
                      rotate_left
                      · intro w hSw
                        try dsimp only at hSw
                        go_simp
                        try with_reducible rfl
                      simp only [Act.put, List.setIfInBounds_toArray, List.set_cons_zero, List.set_cons_succ]
                      refine wpAnyH_takeD (i := 2) (v := ?_) (some 136) rfl (by rfl) (by kernel_rfl) (by kernel_rfl) (by kernel_rfl) (fun _ _ _ h => h) (Or.inl ⟨by rfl, ?_⟩) (by assumption) ?_
                      rotate_left
                      · intro w hSw
                        try dsimp only at hSw
                        go_simp
                        try with_reducible rfl
                      simp only [Act.put, List.setIfInBounds_toArray, List.set_cons_zero, List.set_cons_succ]
                      refine wpAnyH_takeD (i := 3) (v := ?_) (some 137) rfl (by rfl) (by kernel_rfl) (by kernel_rfl) (by kernel_rfl) (fun _ _ _ h => h) (Or.inl ⟨by rfl, ?_⟩) (by assumption) ?_
                      rotate_left
                      · intro w hSw
                        try dsimp only at hSw
                        go_simp
                        try with_reducible rfl
                      simp only [Act.put, List.setIfInBounds_toArray, List.set_cons_zero, List.set_cons_succ]
                      refine wpAnyH_takeD (i := 4) (v := ?_) (some 138) rfl (by rfl) (by kernel_rfl) (by kernel_rfl) (by kernel_rfl) (fun _ _ _ h => h) (Or.inl ⟨by rfl, ?_⟩) (by assumption) ?_
                      rotate_left
                      · intro w hSw
                        try dsimp only at hSw
                        go_simp
                        try with_reducible rfl
                      simp only [Act.put, List.setIfInBounds_toArray, List.set_cons_zero, List.set_cons_succ]
                      refine wpAnyH_takeD (i := 5) (v := ?_) (some 139) rfl (by rfl) (by kernel_rfl) (by kernel_rfl) (by kernel_rfl) (fun _ _ _ h => h) (Or.inl ⟨by rfl, ?_⟩) (by assumption) ?_
                      rotate_left
                      · intro w hSw
                        try dsimp only at hSw
                        go_simp
                        try with_reducible rfl
                      simp only [Act.put, List.setIfInBounds_toArray, List.set_cons_zero, List.set_cons_succ]
                      refine wpAnyH_takeD (i := 6) (v := ?_) (some 140) rfl (by rfl) (by kernel_rfl) (by kernel_rfl) (by kernel_rfl) (fun _ _ _ h => h) (Or.inl ⟨by rfl, ?_⟩) (by assumption) ?_
                      rotate_left
                      · intro w hSw
                        try dsimp only at hSw
                        go_simp
                        try with_reducible rfl
                      simp only [Act.put, List.setIfInBounds_toArray, List.set_cons_zero, List.set_cons_succ]
                      refine wpAnyH_takeD (i := 7) (v := ?_) (some 141) rfl (by rfl) (by kernel_rfl) (by kernel_rfl) (by kernel_rfl) (fun _ _ _ h => h) (Or.inl ⟨by rfl, ?_⟩) (by assumption) ?_
                      rotate_left
                      · intro w hSw
                        try dsimp only at hSw
                        go_simp
                        try with_reducible rfl
                      simp only [Act.put, List.setIfInBounds_toArray, List.set_cons_zero, List.set_cons_succ]
                      refine wpAnyH_takeD (i := 8) (v := ?_) (some 142) rfl (by rfl) (by kernel_rfl) (by kernel_rfl) (by kernel_rfl) (fun _ _ _ h => h) (Or.inl ⟨by rfl, ?_⟩) (by assumption) ?_
                      rotate_left
                      · intro w hSw
                        try dsimp only at hSw
                        go_simp
                        try with_reducible rfl
                      simp only [Act.put, List.setIfInBounds_toArray, List.set_cons_zero, List.set_cons_succ]
                      refine wpAnyH_ready (rs := [9]) (by kernel_rfl) (by simp) ?_
                      refine AllReadyH.cons rfl (fun K hK => ?_) AllReadyH.nil
                      go_simp
                      refine (hc).mono ?_
                      rintro e w2 ⟨rfl, h2⟩
                      have h3 := Sep.left (Ps := _ :: _ :: _ :: List.zipWith inn vs R) (Qs := [_]) h2
                      obtain ⟨g1, eg1, cl1, -⟩ := h3.item 1 rfl (o := y) (x := .int .u64 r.h) HI.out.2.2.1
                      cases eg1
                      have q2 := (h2.cell (n + 3) (HO.out S' T) 2 (v := .int .i64 kk) rfl).1
                      have q3 := (h2.cell (n + 3) (HO.out S' T) 3 (v := .int .u64 x) rfl).1
                      have HX := And.intro cl1 (And.intro q2 q3)
                      have H2 := Lib.hid h2
                      clear hc h2 h3 cl1 q2 q3
                      refine hK.out _ _ HX (fun _ => ?_)
                      clear hK K hHeld
                      have hHeld := HX
                      clear HX
                      try simp only [Act.put, List.setIfInBounds_toArray, List.set_cons_zero, List.set_cons_succ]
                      refine wpAnyH_takeD (i := 10) (v := ?_) (some 16) rfl (by rfl) (by kernel_rfl) (by kernel_rfl) (by kernel_rfl) (fun _ _ _ h => h) (Or.inl ⟨by rfl, ?_⟩) (by assumption) ?_
                      rotate_left
                      · intro w hSw
                        try dsimp only at hSw
                        go_simp
                        try with_reducible rfl
                      simp only [Act.put, List.setIfInBounds_toArray, List.set_cons_zero, List.set_cons_succ]
                      refine wpAnyH_done (by kernel_rfl) ?_ _
                      clear hHeld
                      have hin' := HIN'.out
                      obtain rfl := HIK.out
                      have hii : (i : Int) < (n' : Int) := by omega
                      have h3 := Sep.left (Ps := _ :: _ :: _ :: List.zipWith inn vs R) (Qs := [_]) H2.out
                      obtain ⟨g2, eg2, cw1, -⟩ := h3.item 2 rfl (o := y) HI.out.2.2.2.1
                      cases eg2
                      rw [HN.out] at cw1
                      have q2 := (H2.out.cell (n + 3) (HO.out S' T) 2 (v := .int .i64 (i : Int)) rfl).1
                      have q3 := (H2.out.cell (n + 3) (HO.out S' T) 3 (v := .int .u64 x) rfl).1
                      clear h3
                      go_wp2_with fail
                      refine wp_region_held_drew (S := fun w' => w'.cell? ⟨gw, y, none⟩ = some (.slice (some ⟨gr, 0, none⟩) n' n') ∧ w'.cell? ⟨ob, 2, none⟩ = some (.int .i64 (i : Int)) ∧ w'.cell? ⟨ob, 3, none⟩ = some (.int .u64 x)) (by kernel_rfl) ⟨cw1, q2, q3⟩ (fun hHeld => ?_)
                      clear cw1 q2 q3
                      refine wpAnyH_takeD (i := 0) (v := ?_) (some 146) rfl (by rfl) (by kernel_rfl) (by kernel_rfl) (by kernel_rfl) (fun _ _ _ h => h) (Or.inl ⟨by rfl, ?_⟩) (by assumption) ?_
                      rotate_left
                      · intro w hSw
                        try dsimp only at hSw
                        go_simp
                        try with_reducible rfl
                      simp only [Act.put, List.setIfInBounds_toArray, List.set_cons_zero, List.set_cons_succ]
                      refine wpAnyH_takeD (i := 1) (v := ?_) (some 147) rfl (by rfl) (by kernel_rfl) (by kernel_rfl) (by kernel_rfl) (fun _ _ _ h => h) (Or.inl ⟨by rfl, ?_⟩) (by assumption) ?_
                      rotate_left
                      · intro w hSw
                        try dsimp only at hSw
                        go_simp
                        try with_reducible rfl
                      simp only [Act.put, List.setIfInBounds_toArray, List.set_cons_zero, List.set_cons_succ]
                      refine wpAnyH_takeD (i := 2) (v := ?_) (some 148) rfl (by rfl) (by kernel_rfl) (by kernel_rfl) (by kernel_rfl) (fun _ _ _ h => h) (Or.inl ⟨by rfl, ?_⟩) (by assumption) ?_
                      rotate_left
                      · intro w hSw
                        try dsimp only at hSw
                        go_simp
                        try with_reducible rfl
                      simp only [Act.put, List.setIfInBounds_toArray, List.set_cons_zero, List.set_cons_succ]
                      refine wpAnyH_takeD (i := 3) (v := ?_) (some 149) rfl (by rfl) (by kernel_rfl) (by kernel_rfl) (by kernel_rfl) (fun _ _ _ h => h) (Or.inl ⟨by rfl, ?_⟩) (by assumption) ?_
                      rotate_left
                      · intro w hSw
                        try dsimp only at hSw
                        go_simp
                        try with_reducible rfl
                      simp only [Act.put, List.setIfInBounds_toArray, List.set_cons_zero, List.set_cons_succ]
                      refine wpAnyH_takeD (i := 4) (v := ?_) (some 150) rfl (by rfl) (by kernel_rfl) (by kernel_rfl) (by kernel_rfl) (fun _ _ _ h => h) (Or.inl ⟨by rfl, ?_⟩) (by assumption) ?_
                      rotate_left
                      · intro w hSw
                        try dsimp only at hSw
                        go_simp
                        try with_reducible rfl
                      simp only [Act.put, List.setIfInBounds_toArray, List.set_cons_zero, List.set_cons_succ]
                      refine wpAnyH_takeD (i := 5) (v := ?_) (some 151) rfl (by rfl) (by kernel_rfl) (by kernel_rfl) (by kernel_rfl) (fun _ _ _ h => h) (Or.inl ⟨by rfl, ?_⟩) (by assumption) ?_
                      rotate_left
                      · intro w hSw
                        try dsimp only at hSw
                        go_simp
                        try with_reducible rfl
                      simp only [Act.put, List.setIfInBounds_toArray, List.set_cons_zero, List.set_cons_succ]
                      refine wpAnyH_takeD (i := 6) (v := ?_) (some 152) rfl (by rfl) (by kernel_rfl) (by kernel_rfl) (by kernel_rfl) (fun _ _ _ h => h) (Or.inl ⟨by rfl, ?_⟩) (by assumption) ?_
                      rotate_left
                      · intro w hSw
                        try dsimp only at hSw
                        go_simp
                        try with_reducible rfl
                      simp only [Act.put, List.setIfInBounds_toArray, List.set_cons_zero, List.set_cons_succ]
                      refine wpAnyH_takeD (i := 7) (v := ?_) (some 153) rfl (by rfl) (by kernel_rfl) (by kernel_rfl) (by kernel_rfl) (fun _ _ _ h => h) (Or.inl ⟨by rfl, ?_⟩) (by assumption) ?_
                      rotate_left
                      · intro w hSw
                        try dsimp only at hSw
                        go_simp
                        try with_reducible rfl
                      simp only [Act.put, List.setIfInBounds_toArray, List.set_cons_zero, List.set_cons_succ]
                      refine wpAnyH_takeD (i := 8) (v := ?_) (some 154) rfl (by rfl) (by kernel_rfl) (by kernel_rfl) (by kernel_rfl) (fun _ _ _ h => h) (Or.inl ⟨by rfl, ?_⟩) (by assumption) ?_
                      rotate_left
                      · intro w hSw
                        try dsimp only at hSw
                        go_simp
                        try with_reducible rfl
                      simp only [Act.put, List.setIfInBounds_toArray, List.set_cons_zero, List.set_cons_succ]
                      obtain ⟨g3, eg3, cr, fr⟩ := H2.out.item (y + 3) (HIN.out _) (o := i) (x := .int .u64 xo) (by rw [List.getElem?_map, HXO.out]; rfl)
                      cases eg3
                      have fr2 := fr i
                      have h4 := (H2.out.setItem (y + 3) (HIN.out _) i (.int .u64 x)).drew
                      obtain ⟨g4, eg4, cw2, -⟩ := h4.item 2 (by rw [List.getElem?_set_ne (by omega)]; rfl) (o := y) HI.out.2.2.2.1
                      cases eg4
                      rw [HN.out] at cw2
                      have q2 := (h4.cell (n + 3) (by rw [List.getElem?_set_ne (by omega)]; exact HO.out S' T) 2 (v := .int .i64 (i : Int)) rfl).1
                      have q3 := (h4.cell (n + 3) (by rw [List.getElem?_set_ne (by omega)]; exact HO.out S' T) 3 (v := .int .u64 x) rfl).1
                      have HX := And.intro cw2 (And.intro q2 q3)
                      have H5 : Hid (ARel w b m (.slice (some ⟨gl, 0, none⟩) n cl) (.slice (some ⟨gw, 0, none⟩) n cw) (j + 1) (w2.setCell ⟨gr, i, none⟩ (.int .u64 x)).drew) := ⟨n, _, _, _, _, _, by omega, (HA.out.put HI.out.2.1 HI.out.2.2.2.2.1 HI.out.2.2.2.2.2 HI.out.2.2.2.1 HI.out.1 (Sep.left (Ps := _ :: _ :: _ :: List.zipWith inn vs R) (Qs := [_]) H2.out)).more (Mod.refl No _).drew⟩
                      clear fr h4 cw2 q2 q3
                      refine wpAnyH_ready (rs := [9]) (by kernel_rfl) (by simp) ?_
                      refine AllReadyH.cons rfl (fun K hK => ?_) AllReadyH.nil
                      go_simp
                      have hHeld := HX
                      refine hK.out _ _ hHeld (fun _ => ?_)
                      clear hK K
                      refine wpAnyH_done (by kernel_rfl) ?_ _
                      clear hHeld HX cr fr2
                      go_wp2_with fail
                      go_meet
                      case rel => exact H5.out
                    · obtain ⟨er, he, P⟩ : ∃ er : Int, er ≠ 0 ∧ Puts S T H R r.h kk x er S R := by
                        by_cases h0 : 0 ≤ r.a
                        · exact ⟨2, by omega, .arg y r ⟨hr, h0, rfl⟩ (by omega) HA.out.inv⟩
                        · exact ⟨7, by omega, .stale (HA.out.inv.gone hr (by omega)) HA.out.inv⟩
                      have hc := stput_call HH.out.drew 0 rfl HA.out.inv (hh := r.h) ⟨hrg.1, hrg.2.1⟩ (by omega) (by omega) P
                      have he' : (er == 0) = false := beqF he
                      have HI := Lib.hid hh
                      clear P hr hv ok hh hin hrg k1 fw hok cw0 he hd2
                      go_wp2_with fail
                      refine wp_region_held_drew (S := fun w' => w'.cell? ⟨gl, y, none⟩ = some (.int .u64 r.h) ∧ w'.cell? ⟨ob, 2, none⟩ = some (.int .i64 kk) ∧ w'.cell? ⟨ob, 3, none⟩ = some (.int .u64 x)) (by kernel_rfl) ⟨cl0, k2, k3⟩ (fun hHeld => ?_)
                      clear cl0 k0 k2 k3
                      refine wpAnyH_takeD (i := 0) (v := ?_) (some 134) rfl (by rfl) (by kernel_rfl) (by kernel_rfl) (by kernel_rfl) (fun _ _ _ h => h) (Or.inl ⟨by rfl, ?_⟩) (by assumption) ?_
                      rotate_left
                      · intro w hSw
                        try dsimp only at hSw
                        go_simp
                        try with_reducible rfl
                      simp only [Act.put, List.setIfInBounds_toArray, List.set_cons_zero, List.set_cons_succ]
                      refine wpAnyH_takeD (i := 1) (v := ?_) (some 135) rfl (by rfl) (by kernel_rfl) (by kernel_rfl) (by kernel_rfl) (fun _ _ _ h => h) (Or.inl ⟨by rfl, ?_⟩) (by assumption) ?_
                      rotate_left
                      · intro w hSw
                        try dsimp only at hSw
                        go_simp
                        try with_reducible rfl
                      simp only [Act.put, List.setIfInBounds_toArray, List.set_cons_zero, List.set_cons_succ]
                      refine wpAnyH_takeD (i := 2) (v := ?_) (some 136) rfl (by rfl) (by kernel_rfl) (by kernel_rfl) (by kernel_rfl) (fun _ _ _ h => h) (Or.inl ⟨by rfl, ?_⟩) (by assumption) ?_
                      rotate_left
                      · intro w hSw
                        try dsimp only at hSw
                        go_simp
                        try with_reducible rfl
                      simp only [Act.put, List.setIfInBounds_toArray, List.set_cons_zero, List.set_cons_succ]
                      refine wpAnyH_takeD (i := 3) (v := ?_) (some 137) rfl (by rfl) (by kernel_rfl) (by kernel_rfl) (by kernel_rfl) (fun _ _ _ h => h) (Or.inl ⟨by rfl, ?_⟩) (by assumption) ?_
                      rotate_left
                      · intro w hSw
                        try dsimp only at hSw
                        go_simp
                        try with_reducible rfl
                      simp only [Act.put, List.setIfInBounds_toArray, List.set_cons_zero, List.set_cons_succ]
                      refine wpAnyH_takeD (i := 4) (v := ?_) (some 138) rfl (by rfl) (by kernel_rfl) (by kernel_rfl) (by kernel_rfl) (fun _ _ _ h => h) (Or.inl ⟨by rfl, ?_⟩) (by assumption) ?_
                      rotate_left
                      · intro w hSw
                        try dsimp only at hSw
                        go_simp
                        try with_reducible rfl
                      simp only [Act.put, List.setIfInBounds_toArray, List.set_cons_zero, List.set_cons_succ]
                      refine wpAnyH_takeD (i := 5) (v := ?_) (some 139) rfl (by rfl) (by kernel_rfl) (by kernel_rfl) (by kernel_rfl) (fun _ _ _ h => h) (Or.inl ⟨by rfl, ?_⟩) (by assumption) ?_
                      rotate_left
                      · intro w hSw
                        try dsimp only at hSw
                        go_simp
                        try with_reducible rfl
                      simp only [Act.put, List.setIfInBounds_toArray, List.set_cons_zero, List.set_cons_succ]
                      refine wpAnyH_takeD (i := 6) (v := ?_) (some 140) rfl (by rfl) (by kernel_rfl) (by kernel_rfl) (by kernel_rfl) (fun _ _ _ h => h) (Or.inl ⟨by rfl, ?_⟩) (by assumption) ?_
                      rotate_left
                      · intro w hSw
                        try dsimp only at hSw
                        go_simp
                        try with_reducible rfl
                      simp only [Act.put, List.setIfInBounds_toArray, List.set_cons_zero, List.set_cons_succ]
                      refine wpAnyH_takeD (i := 7) (v := ?_) (some 141) rfl (by rfl) (by kernel_rfl) (by kernel_rfl) (by kernel_rfl) (fun _ _ _ h => h) (Or.inl ⟨by rfl, ?_⟩) (by assumption) ?_
                      rotate_left
                      · intro w hSw
                        try dsimp only at hSw
                        go_simp
                        try with_reducible rfl
                      simp only [Act.put, List.setIfInBounds_toArray, List.set_cons_zero, List.set_cons_succ]
                      refine wpAnyH_takeD (i := 8) (v := ?_) (some 142) rfl (by rfl) (by kernel_rfl) (by kernel_rfl) (by kernel_rfl) (fun _ _ _ h => h) (Or.inl ⟨by rfl, ?_⟩) (by assumption) ?_
                      rotate_left
                      · intro w hSw
                        try dsimp only at hSw
                        go_simp
                        try with_reducible rfl
                      simp only [Act.put, List.setIfInBounds_toArray, List.set_cons_zero, List.set_cons_succ]
                      refine wpAnyH_ready (rs := [9]) (by kernel_rfl) (by simp) ?_
                      refine AllReadyH.cons rfl (fun K hK => ?_) AllReadyH.nil
                      go_simp
                      refine (hc).mono ?_
                      rintro e w2 ⟨rfl, h2⟩
                      have h3 := Sep.left (Ps := _ :: _ :: _ :: List.zipWith inn vs R) (Qs := [_]) h2
                      obtain ⟨g1, eg1, cl1, -⟩ := h3.item 1 rfl (o := y) (x := .int .u64 r.h) HI.out
                      cases eg1
                      have q2 := (h2.cell (n + 3) (HO.out S T) 2 (v := .int .i64 kk) rfl).1
                      have q3 := (h2.cell (n + 3) (HO.out S T) 3 (v := .int .u64 x) rfl).1
                      have HX := And.intro cl1 (And.intro q2 q3)
                      have H2 : Hid (ARel w b m (.slice (some ⟨gl, 0, none⟩) n cl) (.slice (some ⟨gw, 0, none⟩) n cw) (j + 1) w2) := ⟨n, _, _, _, _, vs, by omega, HA.out.same HA.out.inv h3⟩
                      clear hc h2 h3 cl1 q2 q3
                      refine hK.out _ _ HX (fun _ => ?_)
                      clear hK K hHeld
                      have hHeld := HX
                      clear HX
                      try simp only [Act.put, List.setIfInBounds_toArray, List.set_cons_zero, List.set_cons_succ]
                      refine wpAnyH_takeD (i := 10) (v := ?_) (some 16) rfl (by rfl) (by kernel_rfl) (by kernel_rfl) (by kernel_rfl) (fun _ _ _ h => h) (Or.inl ⟨by rfl, ?_⟩) (by assumption) ?_
                      rotate_left
                      · intro w hSw
                        try dsimp only at hSw
                        go_simp
                        try with_reducible rfl
                      simp only [Act.put, List.setIfInBounds_toArray, List.set_cons_zero, List.set_cons_succ]
                      refine wpAnyH_done (by kernel_rfl) ?_ _
                      clear hHeld
                      go_wp2_with fail
                      go_meet
                      case rel => exact H2.out
                  by_cases hd5 : d = 5
                  · subst hd5
                    by_cases h0 : 0 ≤ r.a
                    · obtain ⟨tq, S', T', H', P⟩ := HA.out.inv.slideOk hr h0
                      have hc := stslide_call HH.out 0 rfl (HT.out.mod HH.out.mod) HA.out.inv (hh := r.h) ⟨hrg.1, hrg.2.1⟩ P
                      obtain ⟨bq, hbq⟩ : ∃ bq, ((tq : Int) != r.a) = bq := ⟨_, rfl⟩
                      rw [hbq] at hc
                      have HI := Lib.hid (And.intro P.inv (And.intro hr h0))
                      clear P hr hv ok hh hin hrg hd2 hd3 k1 k2 k3 cw0 fw h0 hbq
                      go_wp2_with fail
                      refine hc.mono ?_
                      rintro e w2 ⟨rfl, h2⟩
                      have H2 : Hid (ARel w b m (.slice (some ⟨gl, 0, none⟩) n cl) (.slice (some ⟨gw, 0, none⟩) n cw) (j + 1) w2) := ⟨n, _, _, _, _, vs, by omega, HA.out.slide HI.out.2.1 HI.out.2.2 (Int.natCast_nonneg tq) HI.out.1 (Sep.left (Ps := _ :: _ :: _ :: List.zipWith inn vs R) (Qs := [_]) h2)⟩
                      clear hc h2 cl0 k0
                      go_wp2_with fail
                      go_meet
                      case rel => exact H2.out
                    · have hc := stslide_call HH.out 0 rfl (HT.out.mod HH.out.mod) HA.out.inv (hh := r.h) ⟨hrg.1, hrg.2.1⟩ (.stale (HA.out.inv.gone hr (by omega)) HA.out.inv)
                      clear hr hv ok hh hin hrg hd2 hd3 k1 k2 k3 cw0 fw h0
                      go_wp2_with fail
                      refine hc.mono ?_
                      rintro e w2 ⟨rfl, h2⟩
                      have H2 : Hid (ARel w b m (.slice (some ⟨gl, 0, none⟩) n cl) (.slice (some ⟨gw, 0, none⟩) n cw) (j + 1) w2) := ⟨n, _, _, _, _, vs, by omega, HA.out.same HA.out.inv (Sep.left (Ps := _ :: _ :: _ :: List.zipWith inn vs R) (Qs := [_]) h2)⟩
                      clear hc h2 cl0 k0
                      go_wp2_with fail
                      go_meet
                      case rel => exact H2.out
                  · have e2 : (d == 2) = false := beqF hd2
                    have e3 : (d == 3) = false := beqF hd3
                    have e5 : (d == 5) = false := beqF hd5
                    clear hd2 hd3 hd5 hr hv ok hh hin hrg k1 k2 k3 cw0 fw cl0
                    go_wp2_with fail
                    go_meet
                    case rel => exact HSAME.out
          case rest =>
            as_aux_lemma =>
              clear HH HKR
              rename World => wx
              obtain ⟨n', S', T', H', R', vs', hn', A⟩ := hcut
              obtain ⟨sl', cl', rfl⟩ := A.sep.form 1 rfl
              obtain ⟨sw', cw', rfl⟩ := A.sep.form 2 rfl
              have HA := Lib.hid A
              have hn60 : n' ≤ 60 := by omega
              clear A
              go_wp2_with fail
              go_loopw [17] (fun i wq => ∃ k : Nat, i = .int .i64 k ∧ k ≤ n' ∧ wq = wx) (fun i _ => n' - (RowKit.intOf i).toNat)
              case atStart => exact ⟨0, rfl, Nat.zero_le _, rfl⟩
              case round =>
                obtain ⟨k, rfl, hk', rfl⟩ := hrel
                by_cases hlt2 : k < n'
                · obtain ⟨r, v, hr, hv, ok, hh, hin⟩ := HA.out.at_ hlt2
                  obtain ⟨gl, rfl, cl0, _⟩ := HA.out.sep.item 1 rfl (o := k) (x := .int .u64 r.h) hh
                  obtain ⟨gw, rfl, cw0, _⟩ := HA.out.sep.item 2 rfl (o := k) (x := v) hv
                  have hrg := HA.out.inv.rng hr
                  have hki : (k : Int) < (n' : Int) := by omega
                  by_cases h0 : 0 ≤ r.a
                  · obtain ⟨gr, rfl⟩ := ok.live h0
                    have hc := stlen_call HA.out.sep 0 rfl HA.out.inv (hh := r.h) ⟨hrg.1, hrg.2.1⟩ (.ok k r ⟨hr, h0, rfl⟩)
                    have hlen := (HA.out.inv.adr (List.mem_of_getElem? hr) h0).2.1
                    have hadr := (HA.out.inv.adr (List.mem_of_getElem? hr) h0).1
                    obtain ⟨c, hcl⟩ : ∃ c, r.w.length = c := ⟨_, rfl⟩
                    have HC := Lib.hid hcl
                    have HG : Hid (∀ (q : Nat) (x : Int), r.w[q]? = some x → Calls Tryd.prog 24 #[.pointer (some ⟨b, 0, none⟩), .int .u64 r.h, .int .i64 (q : Int)] wr fun e w' => e = .returned (.tuple #[.int .u64 x, .int .i64 0]) ∧ wr = w') := fun q x hx => stget_call HA.out.sep 0 rfl HA.out.inv (hh := r.h) ⟨hrg.1, hrg.2.1⟩ (.ok k r ⟨hr, h0, rfl⟩ q rfl x hx)
                    have HW : Hid (∀ (q : Nat) (x : Int), r.w[q]? = some x → wr.cell? ⟨gr, q, none⟩ = some (.int .u64 x)) := fun q x hx => by
                      rw [inn_live h0] at hin
                      obtain ⟨g', eg, cq, _⟩ := HA.out.sep.item (k + 3) hin (o := q) (x := .int .u64 x) (by rw [List.getElem?_map, hx]; rfl)
                      cases eg
                      exact cq
                    rw [hcl] at hc cw0 hlen
                    have hc6 : c < 67108864 := by omega
                    clear hr hv ok hh hin hrg h0 hlen hadr hcl
                    go_wp2_with fail
                    refine hc.mono ?_
                    rintro e w2 ⟨rfl, rfl⟩
                    clear hc
                    go_wp2_with fail
                    go_loopw [20] (fun i wq => ∃ q : Nat, i = .int .i64 q ∧ q ≤ c ∧ wq = wr) (fun i _ => c - (RowKit.intOf i).toNat)
                    case atStart => exact ⟨0, rfl, Nat.zero_le _, rfl⟩
                    case round =>
                      obtain ⟨q, rfl, hq, rfl⟩ := hrel
                      by_cases hlt3 : q < c
                      · have hx : r.w[q]? = some (r.w[q]'(by rw [HC.out]; exact hlt3)) := List.getElem?_eq_getElem _
                        generalize r.w[q]'(by rw [HC.out]; exact hlt3) = x at hx
                        have hg := HG.out q x hx
                        have cq := HW.out q x hx
                        have hqi : (q : Int) < (c : Int) := by omega
                        clear hx
                        go_wp2_with fail
                        refine hg.mono ?_
                        rintro e w3 ⟨rfl, rfl⟩
                        clear hg
                        go_wp2_with fail
                        go_roundw
                        case rel => exact ⟨q + 1, by go_num, by omega, by trivial⟩
                        case measure => simp [RowKit.intOf]; omega
                      · obtain rfl : q = c := by omega
                        go_wp2_with fail
                        go_roundw
                        case rel => exact ⟨k + 1, by go_num, by omega, by trivial⟩
                        case measure => simp [RowKit.intOf]; omega
                  · obtain rfl := ok.gone h0
                    have hc := stlen_call HA.out.sep 0 rfl HA.out.inv (hh := r.h) ⟨hrg.1, hrg.2.1⟩ (.stale (HA.out.inv.gone hr (by omega)))
                    clear hr hv ok hh hin hrg h0
                    go_wp2_with fail
                    refine hc.mono ?_
                    rintro e w2 ⟨rfl, rfl⟩
                    clear hc
                    go_wp2_with fail
                    go_loopw [20] (fun i wq => i = .int .i64 0 ∧ wq = wr) (fun i _ => 0)
                    case atStart => exact ⟨rfl, rfl⟩
                    case round =>
                      obtain ⟨rfl, rfl⟩ := hrel
                      go_wp2_with fail
                      go_roundw
                      case rel => exact ⟨k + 1, by go_num, by omega, by trivial⟩
                      case measure => simp [RowKit.intOf]; omega
                · obtain rfl : k = n' := by omega
                  clear hlt2
                  go_wp2_with fail
                  go_roundw
                  case rel => exact ⟨j + 1, by go_num, by omega, _, _, _, _, _, _, hn', HA.out⟩
                  case measure => simp [RowKit.intOf]; omega
    · obtain rfl : j = len2 := by omega
      have hau := staudit_call A.sep 0 rfl A.inv
      clear A hlt HR
      go_wp2_with fail
      refine hau.mono ?_
      rintro e w2 ⟨rfl, h2⟩
      have HM := Lib.hid h2.mod
      clear hau h2
      go_wp2_with fail
      have ha := awake06_call w2 (HT.out.mod HM.out)
      go_wp2_with fail
      refine ha.mono ?_
      rintro e w9 ⟨rfl, hm9⟩
      have H9 := Lib.hid (HM.out.trans' hm9)
      clear ha hm9
      go_wp2
      go_ret
      exact ⟨rfl, H9.out.below _ (Nat.le_refl _) (fun _ _ x => x)⟩

theorem storeApart_walk (q m : Int) (s2 : Option Addr) (len2 cap2 : Nat) (z2 : List (List Int)) (w : World) (w0 : (Lit.int .i64 q).wf = true) (w1 : (Lit.int .i64 m).wf = true) (R : Recs w s2 len2 [some .i64, some .i64, some .i64, some .u64] z2) (hT : Tab64 w) :
    Calls Tryd.prog 5 #[.int .i64 q, .int .i64 m, .slice s2 len2 cap2] w fun e w' => e = .returned (.bool true) ∧ Below w.heap.size w w' := by
  by_cases hall : (0 ≤ q ∧ q ≤ 4000) ∧ (1 ≤ m ∧ m ≤ 1000) ∧ len2 ≤ 60
  · exact sapart_in q m s2 len2 cap2 z2 w hall.1 hall.2.1 R hall.2.2 hT
  · have HM := Lib.hid (Mod.refl No w)
    have HT := Lib.hid hT
    clear hT R
    have hd : decide (q < 0) = true ∨ decide (q < 0) = false ∧ decide (4000 < q) = true ∨ decide (q < 0) = false ∧ decide (4000 < q) = false ∧ decide (m < 1) = true ∨ decide (q < 0) = false ∧ decide (4000 < q) = false ∧ decide (m < 1) = false ∧ decide (1000 < m) = true ∨ decide (q < 0) = false ∧ decide (4000 < q) = false ∧ decide (m < 1) = false ∧ decide (1000 < m) = false ∧ decide ((60 : Int) < (len2 : Int)) = true := by
      by_cases h1 : q < 0
      · exact .inl (ltT h1)
      · by_cases h2 : 4000 < q
        · exact .inr (.inl ⟨ltF (by omega), ltT h2⟩)
        · by_cases h3 : m < 1
          · exact .inr (.inr (.inl ⟨ltF (by omega), ltF (by omega), ltT h3⟩))
          · by_cases h4 : 1000 < m
            · exact .inr (.inr (.inr (.inl ⟨ltF (by omega), ltF (by omega), ltF (by omega), ltT h4⟩)))
            · exact .inr (.inr (.inr (.inr ⟨ltF (by omega), ltF (by omega), ltF (by omega), ltF (by omega), ltT (by omega)⟩)))
    clear hall
    rcases hd with d1 | ⟨d1, d2⟩ | ⟨d1, d2, d3⟩ | ⟨d1, d2, d3, d4⟩ | ⟨d1, d2, d3, d4, d5⟩
    all_goals
      go_enter Tryd.func5, Tryd.ntmps5
      have ha := awake06_call w (HT.out.mod HM.out)
      go_wp2_with fail
      refine ha.mono ?_
      rintro e w9 ⟨rfl, hm9⟩
      have H9 := Lib.hid (HM.out.trans' hm9)
      clear ha hm9
      go_wp2
      go_ret
      exact ⟨rfl, H9.out.below _ (Nat.le_refl _) (fun _ _ x => x)⟩
end Go.Proofs.YtfmcddomciicdaaDoor
