/- HeapBack, walked. Condition: the table of math/bits holds what its initialiser lays. -/
import Derived.Test.YtnkdopaajpbjfaaDoorHeapLawSpec
import Derived.Test.YtnkdopaajpbjfaaDoorArgs
set_option linter.unusedVariables false
set_option linter.unusedSimpArgs false
namespace Go.Proofs.YtnkdopaajpbjfaaDoor
open Go Go.RowKit

namespace Slb
variable {S S' : Slb} {H H' : List Ent}
theorem AllocWay.len {n : Int} {a : Nat} (h1 : 1 ≤ n) (h2 : n ≤ 4000) (W : AllocWay S S' H H' n a) : S'.pg.length ≤ S.pg.length + 63 ∧ S.pg.length ≤ S'.pg.length := by
  have hp := pagesOf_range h1 h2
  cases W with
  | slot p N k h o least e pg => rw [pg]; omega
  | page f h none ne e pg fr q ad =>
    rw [pg, more_length (by rw [fr]; exact (least_spec S.pg 1 (by omega)).2.1)]
    omega
  | large f m h hm ne e pg fr q ad =>
    rw [pg, more_length (by rw [fr]; exact (least_spec S.pg m (by omega)).2.1)]
    omega
theorem Rep.no_blocks (R : Rep S H) (h : blks H = []) : H = [] ∧ S.pg = [] ∧ S.live = [] := by
  have hH : H = [] := by
    cases H with
    | nil => rfl
    | cons x L =>
      exfalso
      have g := R.good x (by simp)
      have hx : blkE x = [] := by
        unfold blks at h
        rw [List.flatMap_cons, List.append_eq_nil_iff] at h
        exact h.1
      by_cases h2 : x.2.kind = 2
      · rw [blkE_big h2] at hx; cases hx
      · have gs := g.small h2
        rw [blkE_small gs.1] at hx
        rw [List.map_eq_nil_iff, List.filter_eq_nil_iff] at hx
        obtain ⟨i, hi⟩ := Nat.exists_testBit_of_ne_zero (x := x.2.w.toNat) (by omega)
        by_cases hlt : i < 62 / csz x.2.n.toNat
        · have := hx i (List.mem_range.2 hlt)
          rw [hi] at this
          exact this rfl
        · rw [Nat.testBit_lt_two_pow (Nat.lt_of_lt_of_le (show x.2.w.toNat < 2 ^ (62 / csz x.2.n.toNat) by omega) (Nat.pow_le_pow_right (by omega) (by omega)))] at hi
          cases hi
  subst hH
  refine ⟨rfl, ?_, by rw [R.live]; rfl⟩
  rw [R.pg_eq]; rfl
/-- What was freed is no block's. -/
theorem Freed.gone (R : Rep S H) {a r : Nat} (F : Freed S S' H H' a r) : S'.find a = none := by
  refine F.rep.find_no fun b hb e => ?_
  have hbm : b ∈ blks H := F.perm.mem_iff.2 (by simp [hb])
  have ham : (a, r) ∈ blks H := F.perm.mem_iff.2 (by simp)
  have := R.blk_uniq hbm ham (by show b.1 = a; omega)
  have hnd := F.perm.nodup_iff.1 (nodup_blks R)
  rw [List.nodup_cons] at hnd
  exact hnd.1 (this ▸ hb)
end Slb

/-- What is left behind i calls. -/
def remF (t : Bool) (B : List (Nat × Nat)) (i : Nat) : List (Nat × Nat) := if t then B.take (B.length - i) else B.drop i
def idxF (t : Bool) (n i : Nat) : Nat := if t then n - 1 - i else i
theorem rem_step (t : Bool) (B : List (Nat × Nat)) (i : Nat) (hi : i < B.length) : ∃ c, B[idxF t B.length i]? = some c ∧ (remF t B i).Perm (c :: remF t B (i + 1)) := by
  cases t with
  | false =>
    refine ⟨B[i], List.getElem?_eq_getElem hi, ?_⟩
    show (B.drop i).Perm (B[i] :: B.drop (i + 1))
    rw [List.drop_eq_getElem_cons hi]
  | true =>
    have hk : B.length - 1 - i < B.length := by omega
    refine ⟨B[B.length - 1 - i], List.getElem?_eq_getElem hk, ?_⟩
    show (B.take (B.length - i)).Perm (_ :: B.take (B.length - (i + 1)))
    rw [show B.length - i = (B.length - 1 - i) + 1 by omega, show B.length - (i + 1) = B.length - 1 - i by omega, List.take_succ_eq_append_getElem hk]
    exact List.perm_append_comm

def BackRel1 (w : World) (s b : Nat) (l : Value) (j : Nat) (wr : World) : Prop := ∃ (S : Slb) (H : List Ent) (B : List (Nat × Nat)), Slb.Rep S H ∧ S.quota = 262144 ∧ S.pg.length ≤ 63 * j ∧ (blks H).Perm B ∧ B.length ≤ j ∧
  Sep No w wr [slabR s S, hpAt b s, rowAt 3 1 l B.length (B.map fun b => Value.int .i64 (b.1 : Int))]
def BackRel2 (w : World) (s b : Nat) (l : Value) (t : Bool) (B : List (Nat × Nat)) (n i : Nat) (wr : World) : Prop := ∃ (S : Slb) (H : List Ent), Slb.Rep S H ∧ (blks H).Perm (remF t B i) ∧
  Sep No w wr [slabR s S, hpAt b s, rowAt 3 1 l n (B.map fun b => Value.int .i64 (b.1 : Int))]

set_option maxRecDepth 100000 in
set_option maxHeartbeats 2000000 in
theorem back_in (s0 : Option Addr) (len0 cap0 : Nat) (z0 : List (List Int)) (t : Bool) (w : World) (R : Recs w s0 len0 [some .i64] z0) (hlen : len0 ≤ 40) (hT : Tab64 w) :
    Calls Tryd.prog 5 #[.slice s0 len0 cap0, .bool t] w fun e w' => e = .returned (.bool true) ∧ Below w.heap.size w w' := by
  have d40 : decide ((40 : Int) < (len0 : Int)) = false := ltF (by omega)
  have HR := Lib.hid R
  have HT := Lib.hid hT
  clear R hT
  obtain ⟨i0, hi0, hz0, hz1, hz2⟩ := info_parts infoInt
  have HI := Lib.hid (And.intro hi0 (And.intro hz0 (And.intro hz1 hz2)))
  clear hi0 hz0 hz1 hz2
  go_enter Tryd.func5, Tryd.ntmps5
  go_wp2_with fail
  refine (made_call (Sep.nil w) 262144 (by omega) (by omega)).mono ?_
  rintro e w1 ⟨s, b, rfl, g1⟩
  have hst := Lib.hid (show BackRel1 w s b (.slice none 0 0) 0 w1 from ⟨_, [], [], Slb.Rep.empty (by omega) (by omega), rfl, Nat.le_refl _, List.Perm.refl _, Nat.le_refl _, g1.pushNil _ _⟩)
  clear g1
  go_wp2_with fail
  go_loopw [8, 9] (fun l i wr => ∃ j : Nat, i = .int .i64 j ∧ j ≤ len0 ∧ BackRel1 w s b l j wr) (fun _ i _ => len0 - (RowKit.intOf i).toNat)
  case atStart => exact ⟨0, rfl, Nat.zero_le _, hst.out⟩
  case round =>
    obtain ⟨j, rfl, hj, S, H, B, hRep, hq, hpl, hB, hBl, h⟩ := hrel
    clear hst
    obtain ⟨sl, cl, rfl⟩ := h.form 2 rfl
    by_cases hlt : j < len0
    · obtain ⟨bb, off, rfl, hb, hc⟩ := HR.out.cells (by omega)
      have hzj : z0[j]? = some (z0[j]'(by rw [HR.out.count]; exact hlt)) := List.getElem?_eq_getElem _
      obtain ⟨hrl, hro⟩ := HR.out.ok _ (List.mem_of_getElem? hzj)
      generalize z0[j]'(by rw [HR.out.count]; exact hlt) = r at *
      match r, hrl with
      | [x], _ =>
      have hx := bounds_i64 (hro 0 _ x rfl rfl)
      have c0 := h.old (hc j _ hzj 0 _ x rfl rfl)
      have HC := Lib.hid (hc j _ hzj 0 _ x rfl rfl)
      simp only [List.length_cons, List.length_nil, Nat.add_zero, Nat.zero_add, Nat.reduceAdd, Nat.mul_one, fv] at c0 HC
      clear hc hzj hro hb
      by_cases hbad : x < 1 ∨ 4000 < x
      · have hal := h.hAlloc 1 0 (by omega) rfl rfl (HT.out.mod h.mod) x (Slb.halloc_bad' hbad)
        have HX : Hid (BackRel1 w s b (.slice sl B.length cl) j wr) := ⟨S, H, B, hRep, hq, hpl, hB, hBl, h⟩
        have hd : decide ((1 : Int) ≤ x) = false ∨ decide ((1 : Int) ≤ x) = true ∧ decide (x ≤ 4000) = false := by
          rcases hbad with hbad | hbad
          · exact .inl (leF (by omega))
          · exact .inr ⟨leT (by omega), leF (by omega)⟩
        have HY := Lib.hid (And.intro hRep (And.intro hq (And.intro hpl (And.intro hB hBl))))
        clear h hbad hRep hq hpl hB hBl HX
        go_wp2_with fail
        refine hal.mono ?_
        rintro e w2 ⟨rfl, h2⟩
        have h2 : Sep No w w2 [slabR s S, hpAt b s, rowAt 3 1 (.slice sl B.length cl) B.length (B.map fun b => Value.int .i64 (b.1 : Int))] := h2
        have c0 := h2.old HC.out
        have H2 : Hid (BackRel1 w s b (.slice sl B.length cl) (j + 1) w2) := ⟨S, H, B, HY.out.1, HY.out.2.1, by have := HY.out.2.2.1; omega, HY.out.2.2.2.1, by have := HY.out.2.2.2.2; omega, h2⟩
        clear hal h2 HY
        rcases hd with d1 | ⟨d1, d2⟩
        · go_wp2
          go_roundw
          case rel => exact ⟨j + 1, by go_num, by omega, H2.out⟩
          case measure => simp [RowKit.intOf]; omega
        · go_wp2
          go_roundw
          case rel => exact ⟨j + 1, by go_num, by omega, H2.out⟩
          case measure => simp [RowKit.intOf]; omega
      · have d1 : decide ((1 : Int) ≤ x) = true := leT (by omega)
        have d2 : decide (x ≤ 4000) = true := leT (by omega)
        have hpr := Slb.pagesOf_range (n := x) (by omega) (by omega)
        rcases hRep.halloc (n := x) (by omega) (by omega) with ⟨_, hqq, _⟩ | ⟨a, S', H', e1, A, W⟩
        · omega
        have hrr := Slb.roomOf_range (n := x) (by omega) (by omega)
        have hle := Slb.le_roomOf (n := x) (by omega)
        have hwl := W.len (by omega) (by omega)
        have hmem : (a, Slb.roomOf x) ∈ blks H' := A.perm.mem_iff.2 (by simp)
        have hroom : S'.room (a : Int) = (((Slb.roomOf x : Nat) : Int), 0) := A.rep.room_blk hmem
        have har := A.rep.blk_range hmem
        obtain ⟨r, hr⟩ : ∃ y, Slb.roomOf x = y := ⟨_, rfl⟩
        rw [hr] at hrr hle hroom har
        have hal := h.hAlloc 1 0 (by omega) rfl rfl (HT.out.mod h.mod) x e1
        have dr : decide ((r : Int) < x) = false := ltF hle
        have HY : Hid (Slb.Rep S' H' ∧ S'.quota = 262144 ∧ S'.pg.length ≤ 63 * (j + 1) ∧ (blks H').Perm (B ++ [(a, r)]) ∧ (B ++ [(a, r)]).length ≤ j + 1) :=
          ⟨A.rep, A.quota.trans hq, by omega, (A.perm.trans (by rw [hr]; exact (hB.cons _).trans (List.perm_append_comm (l₁ := [(a, r)])))), by simp; omega⟩
        have HRM := Lib.hid hroom
        have ha0 : (0 : Int) ≤ (a : Int) := by omega
        have ha1 : (a : Int) ≤ 67108864 := by omega
        have hBm : B.length ≤ 40 := by omega
        clear h hRep hq hpl hB hBl e1 A W hpr hle hwl hmem hroom har hr hbad
        go_wp2_with fail
        refine hal.mono ?_
        rintro e w2 ⟨rfl, h2⟩
        have h2 : Sep No w w2 [slabR s S', hpAt b s, rowAt 3 1 (.slice sl B.length cl) B.length (B.map fun b => Value.int .i64 (b.1 : Int))] := h2
        have c0 := h2.old HC.out
        have hrm := hroom_call h2 1 0 rfl rfl (a : Int) (by omega) (by omega)
        rw [HRM.out] at hrm
        have H2 := Lib.hid h2
        clear hal h2
        go_wp2_with fail
        refine hrm.mono ?_
        rintro e w3 ⟨rfl, hm3⟩
        have h3 := H2.out.more hm3
        have c0 := h3.old HC.out
        obtain ⟨hi0, hz0, hz1, hz2⟩ := HI.out
        clear hrm hm3 H2
        go_wp2_with (at_builtin; refine wpList_append_sep1 h3 2 rfl (by rfl) _ _ 30 rfl Tryd.underlying30 hi0 hz0 hz1 hz2 rfl (by rfl) _ _ (by rfl) (by simp) (by rfl) _ (by unfold maxLen; omega) (by omega) ?_)
        intro gg capg w4 h4
        have H4 : Hid (BackRel1 w s b (.slice (some ⟨gg, 0, none⟩) (B.length + 1) capg) (j + 1) w4) := by
          refine ⟨S', H', B ++ [(a, r)], HY.out.1, HY.out.2.1, HY.out.2.2.1, HY.out.2.2.2.1, HY.out.2.2.2.2, ?_⟩
          rw [List.length_append, List.map_append]
          exact h4
        clear h4 h3 hi0 hz0 hz1 hz2 c0 HY
        go_wp2
        go_roundw
        case rel => exact ⟨j + 1, by go_num, by omega, H4.out⟩
        case measure => simp [RowKit.intOf]; omega
    · obtain rfl : j = len0 := by omega
      have hBm : B.length ≤ 40 := by omega
      have H2 : Hid (BackRel2 w s b (.slice sl B.length cl) t B B.length 0 wr) := ⟨S, H, hRep, by cases t <;> simpa [remF] using hB, h⟩
      obtain ⟨nB, hnB⟩ : ∃ x, B.length = x := ⟨_, rfl⟩
      rw [hnB] at H2 hBm ⊢
      have HnB := Lib.hid hnB
      clear h hRep hq hpl hB hBl hlt HR hnB
      go_wp2_with fail
      go_loopw [14] (fun i wr => ∃ k : Nat, i = .int .i64 k ∧ k ≤ nB ∧ BackRel2 w s b (.slice sl nB cl) t B nB k wr) (fun i _ => nB - (RowKit.intOf i).toNat)
      case atStart => exact ⟨0, rfl, Nat.zero_le _, H2.out⟩
      case round =>
        obtain ⟨k, rfl, hk, S, H, hRep, hB, h⟩ := hrel
        clear H2
        by_cases hlt : k < nB
        · obtain ⟨c, hcx, hstep⟩ := rem_step t B k (by rw [HnB.out]; exact hlt)
          rw [HnB.out] at hcx
          have hcm : c ∈ blks H := hB.mem_iff.2 (hstep.mem_iff.2 (by simp))
          obtain ⟨S', H', e1, F, _⟩ := hRep.hfree hcm
          have hgone := F.gone hRep
          have hcr := hRep.blk_range hcm
          have hfr := hfree_call h 1 0 (by omega) rfl rfl (c.1 : Int) (by omega) (by omega) e1
          obtain ⟨g, rfl, cx, _⟩ := h.item 2 rfl (o := idxF t nB k) (x := .int .i64 (c.1 : Int)) (by rw [List.getElem?_map, hcx]; rfl)
          have HF : Hid (Slb.Rep S' H' ∧ (blks H').Perm (remF t B (k + 1)) ∧ S'.find c.1 = none) := ⟨F.rep, (F.perm.symm.trans (hB.trans hstep)).cons_inv, hgone⟩
          have hc0 : (0 : Int) ≤ (c.1 : Int) := by omega
          have hc1 : (c.1 : Int) ≤ 67108864 := by omega
          have hbx : (B.map fun b => Value.int .i64 (b.1 : Int))[idxF t nB k]? = some (.int .i64 (c.1 : Int)) := by rw [List.getElem?_map, hcx]; rfl
          obtain ⟨a, ha⟩ : ∃ a, c.1 = a := ⟨_, rfl⟩
          rw [ha] at hfr cx HF hc0 hc1 hbx
          have hixl : idxF t nB k < nB := by
            unfold idxF
            split <;> omega
          obtain ⟨ix, hixe⟩ : ∃ x, idxF t nB k = x := ⟨_, rfl⟩
          rw [hixe] at cx hixl hbx
          have HIX := Lib.hid hixe
          have HBX := Lib.hid hbx
          clear h hRep hB hcx hstep hcm e1 F hgone hcr ha hixe hbx
          cases t with
          | false =>
            obtain rfl : ix = k := HIX.out.symm
            clear hlt HIX
            go_wp2_with fail
            refine hfr.mono ?_
            rintro e w2 ⟨rfl, h2⟩
            have h2 : Sep No w w2 [slabR s S', hpAt b s, rowAt 3 1 (.slice (some ⟨g, 0, none⟩) nB cl) nB (B.map fun b => Value.int .i64 (b.1 : Int))] := h2
            have hfr2 := hfree_call h2 1 0 (by omega) rfl rfl (a : Int) (by omega) (by omega) (Slb.hfree_none HF.out.2.2)
            obtain ⟨g', eg, cx2, _⟩ := h2.item 2 rfl (o := ix) (x := .int .i64 (a : Int)) HBX.out
            cases eg
            clear hfr h2 cx
            go_wp2_with fail
            refine hfr2.mono ?_
            rintro e w3 ⟨rfl, h3⟩
            have H3 : Hid (BackRel2 w s b (.slice (some ⟨g, 0, none⟩) nB cl) false B nB (ix + 1) w3) := ⟨S', H', HF.out.1, HF.out.2.1, h3⟩
            clear hfr2 h3 cx2
            go_wp2
            go_roundw
            case rel => exact ⟨ix + 1, by go_num, by omega, H3.out⟩
            case measure => simp [RowKit.intOf]; omega
          | true =>
            have hix2 : (nB : Int) - 1 - (k : Int) = (ix : Int) := by
              have : nB - 1 - k = ix := HIX.out
              omega
            clear HIX
            go_wp2_with fail
            refine hfr.mono ?_
            rintro e w2 ⟨rfl, h2⟩
            have h2 : Sep No w w2 [slabR s S', hpAt b s, rowAt 3 1 (.slice (some ⟨g, 0, none⟩) nB cl) nB (B.map fun b => Value.int .i64 (b.1 : Int))] := h2
            have hfr2 := hfree_call h2 1 0 (by omega) rfl rfl (a : Int) (by omega) (by omega) (Slb.hfree_none HF.out.2.2)
            obtain ⟨g', eg, cx2, _⟩ := h2.item 2 rfl (o := ix) (x := .int .i64 (a : Int)) HBX.out
            cases eg
            clear hfr h2 cx
            go_wp2_with fail
            refine hfr2.mono ?_
            rintro e w3 ⟨rfl, h3⟩
            have H3 : Hid (BackRel2 w s b (.slice (some ⟨g, 0, none⟩) nB cl) true B nB (k + 1) w3) := ⟨S', H', HF.out.1, HF.out.2.1, h3⟩
            clear hfr2 h3 cx2
            go_wp2
            go_roundw
            case rel => exact ⟨k + 1, by go_num, by omega, H3.out⟩
            case measure => simp [RowKit.intOf]; omega
        · obtain rfl : k = nB := by omega
          have hnil : blks H = [] := by
            have : remF t B k = [] := by rw [← HnB.out]; cases t <;> simp [remF]
            rw [this] at hB
            exact List.Perm.eq_nil hB
          obtain ⟨_, hpg, hlv⟩ := hRep.no_blocks hnil
          have hp := h.sPages 0 rfl
          have HL := Lib.hid (And.intro hpg hlv)
          clear hRep hB hnil hlt hpg hlv
          go_wp2_with fail
          refine hp.mono ?_
          rintro e w2 ⟨v, rfl, h2⟩
          obtain ⟨sp, cp, rfl⟩ := h2.form 3 rfl
          have h2 := Sep.left h2
          have hl := Sep.hLive h2 1 0 rfl rfl
          rw [HL.out.1]
          clear hp h2 h
          go_wp2_with fail
          refine hl.mono ?_
          rintro e w3 ⟨v, rfl, h3⟩
          obtain ⟨sq, cq, rfl⟩ := h3.form 3 rfl
          rw [HL.out.2]
          have HM := Lib.hid h3.mod
          clear hl h3
          have ha := awake_call w3 (HT.out.mod HM.out)
          go_wp2_with fail
          refine ha.mono ?_
          rintro e w9 ⟨rfl, hm9⟩
          have H9 := Lib.hid (HM.out.trans' hm9)
          clear ha hm9
          go_wp2
          go_ret
          exact ⟨rfl, H9.out.below _ (Nat.le_refl _) (fun _ _ x => x)⟩

theorem heapBack_walk (s0 : Option Addr) (len0 cap0 : Nat) (z0 : List (List Int)) (t : Bool) (w : World) (R : Recs w s0 len0 [some .i64] z0) (hT : Tab64 w) :
    Calls Tryd.prog 5 #[.slice s0 len0 cap0, .bool t] w fun e w' => e = .returned (.bool true) ∧ Below w.heap.size w w' := by
  by_cases h : 40 < len0
  · have d : decide ((40 : Int) < (len0 : Int)) = true := ltT (by omega)
    have HM := Lib.hid (Mod.refl No w)
    have HT := Lib.hid hT
    clear R hT
    go_enter Tryd.func5, Tryd.ntmps5
    have ha := awake_call w (HT.out.mod HM.out)
    go_wp2_with fail
    refine ha.mono ?_
    rintro e w9 ⟨rfl, hm9⟩
    have H9 := Lib.hid (HM.out.trans' hm9)
    clear ha hm9
    go_wp2
    go_ret
    exact ⟨rfl, H9.out.below _ (Nat.le_refl _) (fun _ _ x => x)⟩
  · exact back_in s0 len0 cap0 z0 t w R (by omega) hT
end Go.Proofs.YtnkdopaajpbjfaaDoor
