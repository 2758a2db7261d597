/- HeapLeast, walked. Condition: the table of math/bits holds what its initialiser lays. -/
import Derived.Test.YtnkdopaajpbjfaaDoorHeapLeastSpec
set_option linter.unusedVariables false
set_option linter.unusedSimpArgs false
namespace Go.Proofs.YtnkdopaajpbjfaaDoor
open Go Go.RowKit

namespace Slb
variable {S S' : Slb} {H H' : List Ent}
theorem Rep.halloc_ok (R : Rep S H) {n : Int} (h1 : 1 ≤ n) (h2 : n ≤ 4000) (hq : ((S.pg.length : Int) + 63) * 64 ≤ S.quota) :
    ∃ (a : Nat) (S' : Slb) (H' : List Ent), S.halloc n = (((a : Nat) : Int), 0, S') ∧ Alloced S S' H H' a (roomOf n) ∧ AllocWay S S' H H' n a := by
  have hp := pagesOf_range h1 h2
  rcases R.halloc h1 h2 with ⟨_, h, _⟩ | h
  · omega
  · exact h
theorem Alloced.new {a r : Nat} (A : Alloced S S' H H' a r) {b : Nat × Nat} (hb : b ∈ blks H) : b.1 ≠ a := fun e => by
  have h1 : b ∈ blks H' := A.perm.mem_iff.2 (by simp [hb])
  have h2 : (a, r) ∈ blks H' := A.perm.mem_iff.2 (by simp)
  have := A.rep.blk_uniq h1 h2 e
  have hnd := A.perm.nodup_iff.1 (nodup_blks A.rep)
  rw [List.nodup_cons] at hnd
  exact hnd.1 (this ▸ hb)
theorem AllocWay.len1 {n : Int} {a : Nat} (h1 : 1 ≤ n) (h28 : n ≤ 28) (W : AllocWay S S' H H' n a) : S'.pg.length ≤ S.pg.length + 1 := by
  cases W with
  | slot p N k h o least e pg => rw [pg]; omega
  | page f h none ne e pg fr q ad =>
    rw [pg, more_length (by rw [fr]; exact (least_spec S.pg 1 (by omega)).2.1)]
    omega
  | large f m h => omega

theorem least_final {c : Nat} (hc : c < 8) (I : Fill S H c) {B : List (Nat × Nat)} (hB : (blks H).Perm B) (hs : B.Pairwise fun a b => a.1 < b.1) (hl : S.pg.length ≤ 40) (hq : S.quota = 262144) {words other : Int}
    (w1 : 1 ≤ words) (w2 : words ≤ 28) (o1 : 1 ≤ other) (o2 : other ≤ 28) (hcw : clsOf words = c) (hne : clsOf other ≠ c) {f : Nat} {b : Nat × Nat} (hb : B[f]? = some b) :
    ∃ S1 H1, S.hfree (b.1 : Int) = (0, S1) ∧ Rep S1 H1 ∧ ∃ (x : Nat) (S2 : Slb), S1.halloc other = (((x : Nat) : Int), 0, S2) ∧ ∃ (y : Nat) (S3 : Slb), S2.halloc words = (((y : Nat) : Int), 0, S3) ∧ x ≠ y ∧ (f + 1 < B.length → y = b.1) ∧ x ≤ 67108864 ∧ y ≤ 67108864 := by
  have hbm : b ∈ blks H := hB.mem_iff.2 (List.mem_of_getElem? hb)
  by_cases hlast : f + 1 < B.length
  · have hb1 : B[f + 1]? = some B[f + 1] := List.getElem?_eq_getElem hlast
    have hf : f < B.length := by omega
    have hbe : B[f] = b := by rw [List.getElem?_eq_getElem hf] at hb; exact Option.some.inj hb
    have hlt := List.pairwise_iff_getElem.1 hs f (f + 1) hf hlast (by omega)
    rw [hbe] at hlt
    obtain ⟨S1, H1, e1, F, hent, hpg, hex, hmin⟩ := I.free hc hbm (hB.mem_iff.2 (List.mem_of_getElem? hb1)) hlt
    have hq1 : S1.quota = 262144 := F.quota.trans hq
    obtain ⟨x, S2, H2, e2, A2, W2⟩ := F.rep.halloc_ok (n := other) (by omega) (by omega) (by rw [hpg, hq1]; omega)
    have hl2 := W2.len1 (by omega) o2
    rw [hpg] at hl2
    have hoc := other_class hent hne o2 W2
    obtain ⟨y, S3, H3, e3, A3, W3⟩ := A2.rep.halloc_ok (n := words) (by omega) (by omega) (by rw [A2.quota, hq1]; omega)
    have hy : y = b.1 := alloc_least hcw w2 (by obtain ⟨p, N, k, O⟩ := hex; exact ⟨p, N, k, (hoc _ _ _ _).2 O⟩) (fun a p N k O => hmin _ _ _ _ ((hoc _ _ _ _).1 O)) W3
    have hx2 : (x, roomOf other) ∈ blks H2 := A2.perm.mem_iff.2 (by simp)
    have hy3 : (y, roomOf words) ∈ blks H3 := A3.perm.mem_iff.2 (by simp)
    have r1 := A2.rep.blk_range hx2
    have r2 := A3.rep.blk_range hy3
    exact ⟨S1, H1, e1, F.rep, x, S2, e2, y, S3, e3, A3.new hx2, fun _ => hy, by dsimp only at r1; omega, by dsimp only at r2; omega⟩
  · obtain ⟨S1, H1, e1, F, p, h, hent, hbe, hw⟩ := I.rep.hfree hbm
    have hq1 : S1.quota = 262144 := F.quota.trans hq
    have hl1 : S1.pg.length ≤ S.pg.length := by
      rcases hw with ⟨_, hpg, _⟩ | ⟨_, _, _, _, hpg, _⟩
      · rw [hpg]; exact List.length_filter_le _ _
      · rw [hpg]; omega
    obtain ⟨x, S2, H2, e2, A2, W2⟩ := F.rep.halloc_ok (n := other) (by omega) (by omega) (by rw [hq1]; omega)
    have hl2 := W2.len1 (by omega) o2
    obtain ⟨y, S3, H3, e3, A3, W3⟩ := A2.rep.halloc_ok (n := words) (by omega) (by omega) (by rw [A2.quota, hq1]; omega)
    have hx2 : (x, roomOf other) ∈ blks H2 := A2.perm.mem_iff.2 (by simp)
    have hy3 : (y, roomOf words) ∈ blks H3 := A3.perm.mem_iff.2 (by simp)
    have r1 := A2.rep.blk_range hx2
    have r2 := A3.rep.blk_range hy3
    exact ⟨S1, H1, e1, F.rep, x, S2, e2, y, S3, e3, A3.new hx2, fun h => absurd h hlast, by dsimp only at r1; omega, by dsimp only at r2; omega⟩
end Slb

def LeastRel (w : World) (c s b : Nat) (l : Value) (j : Nat) (wr : World) : Prop := ∃ (S : Slb) (H : List Ent) (B : List (Nat × Nat)), Slb.Fill S H c ∧ S.quota = 262144 ∧ S.pg.length ≤ j ∧ (blks H).Perm B ∧ (B.Pairwise fun a b => a.1 < b.1) ∧ B.length = j ∧
  Sep No w wr [slabR s S, hpAt b s, rowAt 3 1 l j (B.map fun b => Value.int .i64 (b.1 : Int))]

set_option maxRecDepth 100000 in
set_option maxHeartbeats 2000000 in
theorem least_in (words other : Int) (m f : Nat) (w : World) (hT : Tab64 w) (w1 : 1 ≤ words) (w2 : words ≤ 28) (o1 : 1 ≤ other) (o2 : other ≤ 28) (hne : clsOf words ≠ clsOf other) (m0 : 1 ≤ m) (m1 : m ≤ 40) (hf : f < m) :
    Calls Tryd.prog 3 #[.int .i64 words, .int .i64 (m : Nat), .int .i64 (f : Nat), .int .i64 other] w fun e w' => e = .returned (.bool true) ∧ Below w.heap.size w w' := by
  have hcw := clsOf_lt words
  have HOF1 : Hid (∀ W, Calls Tryd.prog 10 #[.int .i64 words] W fun e w' => e = .returned (.tuple #[.int .i64 (clsOf words : Nat), .bool true, .int .i64 0]) ∧ Mod No W w') := fun W => by have := of_call words W; rw [cof_small w1 w2] at this; exact this
  have HOF2 : Hid (∀ W, Calls Tryd.prog 10 #[.int .i64 other] W fun e w' => e = .returned (.tuple #[.int .i64 (clsOf other : Nat), .bool true, .int .i64 0]) ∧ Mod No W w') := fun W => by have := of_call other W; rw [cof_small o1 o2] at this; exact this
  have hne2 := Lib.hid hne
  obtain ⟨c, hc⟩ : ∃ x, clsOf words = x := ⟨_, rfl⟩
  obtain ⟨d, hd⟩ : ∃ x, clsOf other = x := ⟨_, rfl⟩
  rw [hc] at HOF1 hcw hne
  rw [hd] at HOF2 hne
  have HCW := Lib.hid (And.intro hc (And.intro hcw hd))
  have dcd : ((c : Int) == (d : Int)) = false := beqF (by omega)
  have t1 : decide ((m : Int) < 1) = false := ltF (by omega)
  have t2 : decide ((40 : Int) < (m : Int)) = false := ltF (by omega)
  have t3 : decide ((f : Int) < 0) = false := ltF (by omega)
  have t4 : decide ((m : Int) ≤ (f : Int)) = false := leF (by omega)
  have HT := Lib.hid hT
  have HW := Lib.hid (And.intro w1 (And.intro w2 (And.intro o1 o2)))
  obtain ⟨i0, hi0, hz0, hz1, hz2⟩ := info_parts infoInt
  have HI := Lib.hid (And.intro hi0 (And.intro hz0 (And.intro hz1 hz2)))
  clear hi0 hz0 hz1 hz2 hT hc hd hcw hne
  go_enter Tryd.func3, Tryd.ntmps3
  go_wp2_with fail
  refine (HOF1.out _).mono ?_
  rintro e wa ⟨rfl, hma⟩
  have HMA := Lib.hid hma
  clear hma
  go_wp2_with fail
  refine (HOF2.out _).mono ?_
  rintro e wb ⟨rfl, hmb⟩
  have HMB := Lib.hid (HMA.out.trans' hmb)
  clear hmb
  go_wp2_with fail
  refine (made_call ((Sep.nil w).more HMB.out) 262144 (by omega) (by omega)).mono ?_
  rintro e wc ⟨s, b, rfl, g1⟩
  have hst := Lib.hid (show LeastRel w c s b (.slice none 0 0) 0 wc from ⟨_, [], [], ⟨Slb.Rep.empty (by omega) (by omega), by simp, rfl, fun a p N k O => absurd O.ent (by simp)⟩, rfl, Nat.le_refl _, List.Perm.refl _, List.Pairwise.nil, rfl, g1.pushNil _ _⟩)
  clear g1 HMB HMA HOF1 HOF2 dcd t1 t2 t3 t4
  go_wp2_with fail
  go_loopw [18, 19] (fun l i wr => ∃ j : Nat, i = .int .i64 j ∧ j ≤ m ∧ LeastRel w c s b l j wr) (fun _ i _ => m - (RowKit.intOf i).toNat)
  case atStart => exact ⟨0, rfl, Nat.zero_le _, hst.out⟩
  case round =>
    obtain ⟨j, rfl, hj, S, H, B, hFill, hq, hpl, hB, hinc, hBl, h⟩ := hrel
    clear hst
    obtain ⟨sl, cl, rfl⟩ := h.form 2 rfl
    by_cases hlt : j < m
    · obtain ⟨w1, w2, _, _⟩ := HW.out
      obtain ⟨a, S', H', e1, A, W⟩ := hFill.rep.halloc_ok (n := words) (by omega) (by omega) (by rw [hq]; omega)
      have hrm : Slb.roomOf words = csz c := by unfold Slb.roomOf; rw [if_pos w2, HCW.out.1]
      rw [hrm] at A
      obtain ⟨hF', hbel⟩ := hFill.alloc HCW.out.2.1 w2 HCW.out.1 A W
      have hl1 := W.len1 w1 w2
      have hal := h.hAlloc 1 0 (by omega) rfl rfl (HT.out.mod h.mod) words e1
      have har := hF'.rep.blk_range (b := (a, csz c)) (A.perm.mem_iff.2 (by simp))
      have HY : Hid (Slb.Fill S' H' c ∧ S'.quota = 262144 ∧ S'.pg.length ≤ j + 1 ∧ (blks H').Perm (B ++ [(a, csz c)]) ∧ ((B ++ [(a, csz c)]).Pairwise fun a b => a.1 < b.1) ∧ (B ++ [(a, csz c)]).length = j + 1) := by
        refine ⟨hF', A.quota.trans hq, by omega, A.perm.trans ((hB.cons _).trans (List.perm_append_comm (l₁ := [(a, csz c)]))), ?_, by simp; omega⟩
        rw [List.pairwise_append]
        refine ⟨hinc, List.pairwise_singleton _ _, fun x hx y hy => ?_⟩
        rw [List.mem_singleton.1 hy]
        exact hbel x (hB.mem_iff.2 hx)
      have ha0 : (0 : Int) ≤ (a : Int) := by omega
      have ha1 : (a : Int) ≤ 67108864 := by dsimp only at har; omega
      obtain ⟨hi0, hz0, hz1, hz2⟩ := HI.out
      clear h hFill hq hpl hB hinc hBl e1 A W hF' hbel hl1 har hrm w1 w2
      go_wp2_with fail
      refine hal.mono ?_
      rintro e w3 ⟨rfl, h3⟩
      have h3 : Sep No w w3 [slabR s S', hpAt b s, rowAt 3 1 (.slice sl j cl) j (B.map fun b => Value.int .i64 (b.1 : Int))] := h3
      clear hal
      go_wp2_with (at_builtin; refine wpList_append_sep1 h3 2 rfl (by rfl) _ _ 30 rfl Tryd.underlying30 hi0 hz0 hz1 hz2 rfl (by rfl) _ _ (by rfl) (by simp) (by rfl) _ (by unfold maxLen; omega) (by omega) ?_)
      intro gg capg w4 h4
      have H4 : Hid (LeastRel w c s b (.slice (some ⟨gg, 0, none⟩) (j + 1) capg) (j + 1) w4) := by
        refine ⟨S', H', B ++ [(a, csz c)], HY.out.1, HY.out.2.1, HY.out.2.2.1, HY.out.2.2.2.1, HY.out.2.2.2.2.1, HY.out.2.2.2.2.2, ?_⟩
        rw [List.map_append]
        exact h4
      clear h4 h3 hi0 hz0 hz1 hz2 HY
      go_wp2
      go_roundw
      case rel => exact ⟨j + 1, by go_num, by omega, H4.out⟩
      case measure => simp [RowKit.intOf]; omega
    · obtain rfl : j = m := by omega
      obtain ⟨w1, w2, o1, o2⟩ := HW.out
      have hbx : B[f]? = some (B[f]'(by omega)) := List.getElem?_eq_getElem _
      obtain ⟨bk, hbk⟩ : ∃ x, B[f]'(by omega) = x := ⟨_, rfl⟩
      rw [hbk] at hbx
      obtain ⟨S1, H1, e1, R1, x, S2, e2, y, S3, e3, hxy, hlst, hx1, hy1⟩ := Slb.least_final HCW.out.2.1 hFill hB hinc (by omega) hq w1 w2 o1 o2 HCW.out.1 (fun e => hne2.out (HCW.out.1.trans e.symm)) hbx
      have hbr := hFill.rep.blk_range (hB.mem_iff.2 (List.mem_of_getElem? hbx))
      have hfr := hfree_call h 1 0 (by omega) rfl rfl (bk.1 : Int) (by omega) (by omega) e1
      have hrow : (B.map fun b => Value.int .i64 (b.1 : Int))[f]? = some (.int .i64 (bk.1 : Int)) := by rw [List.getElem?_map, hbx]; rfl
      obtain ⟨g, rfl, cx, _⟩ := h.item 2 rfl hrow
      have HX := Lib.hid (And.intro e2 (And.intro e3 hrow))
      rw [hBl] at hlst
      obtain ⟨ad, had⟩ : ∃ a, bk.1 = a := ⟨_, rfl⟩
      rw [had] at hfr cx hlst HX
      have hcase : ((j : Int) == 1) = true ∨ ((j : Int) == 1) = false ∧ (((f : Int) == (j : Int) - 1) = true ∨ ((f : Int) == (j : Int) - 1) = false ∧ y = ad) := by
        by_cases h1 : j = 1
        · exact .inl (beqT (by omega))
        · refine .inr ⟨beqF (by omega), ?_⟩
          by_cases h2 : f + 1 < j
          · exact .inr ⟨beqF (by omega), hlst h2⟩
          · exact .inl (beqT (by omega))
      have dxy : ((x : Int) == (y : Int)) = false := beqF (by omega)
      have hx0 : (0 : Int) ≤ (x : Int) ∧ (x : Int) ≤ 67108864 := by omega
      have hy0 : (0 : Int) ≤ (y : Int) ∧ (y : Int) ≤ 67108864 := by omega
      have dxy2 : ((x : Int) != (y : Int)) = true := bneT (by omega)
      clear h hFill hq hpl hB hinc hBl e1 R1 hbx hbk hlst hbr had e2 e3 hrow hx1 hy1 hxy
      go_wp2_with fail
      refine hfr.mono ?_
      rintro e w2 ⟨rfl, h2⟩
      have h2 : Sep No w w2 [slabR s S1, hpAt b s, rowAt 3 1 (.slice (some ⟨g, 0, none⟩) j cl) j (B.map fun b => Value.int .i64 (b.1 : Int))] := h2
      have hax := h2.hAlloc 1 0 (by omega) rfl rfl (HT.out.mod h2.mod) other HX.out.1
      clear hfr h2 cx
      go_wp2_with fail
      refine hax.mono ?_
      rintro e w3 ⟨rfl, h3⟩
      have h3 : Sep No w w3 [slabR s S2, hpAt b s, rowAt 3 1 (.slice (some ⟨g, 0, none⟩) j cl) j (B.map fun b => Value.int .i64 (b.1 : Int))] := h3
      have hay := h3.hAlloc 1 0 (by omega) rfl rfl (HT.out.mod h3.mod) words HX.out.2.1
      clear hax h3
      go_wp2_with fail
      refine hay.mono ?_
      rintro e w4 ⟨rfl, h4⟩
      have h4 : Sep No w w4 [slabR s S3, hpAt b s, rowAt 3 1 (.slice (some ⟨g, 0, none⟩) j cl) j (B.map fun b => Value.int .i64 (b.1 : Int))] := h4
      obtain ⟨g', eg, cx, _⟩ := h4.item 2 rfl HX.out.2.2
      cases eg
      have HM := Lib.hid h4.mod
      clear hay h4
      rcases hcase with d1 | ⟨d1, d2 | ⟨d2, rfl⟩⟩
      · skip
        have ha := awake_call w4 (HT.out.mod HM.out)
        go_wp2_with fail
        refine ha.mono ?_
        rintro e w9 ⟨rfl, hm9⟩
        have H9 := Lib.hid (HM.out.trans' hm9)
        clear ha hm9
        go_wp2
        go_ret
        exact ⟨rfl, H9.out.below _ (Nat.le_refl _) (fun _ _ x => x)⟩
      · skip
        have ha := awake_call w4 (HT.out.mod HM.out)
        go_wp2_with fail
        refine ha.mono ?_
        rintro e w9 ⟨rfl, hm9⟩
        have H9 := Lib.hid (HM.out.trans' hm9)
        clear ha hm9
        go_wp2
        go_ret
        exact ⟨rfl, H9.out.below _ (Nat.le_refl _) (fun _ _ x => x)⟩
      · skip
        have ha := awake_call w4 (HT.out.mod HM.out)
        go_wp2_with fail
        refine ha.mono ?_
        rintro e w9 ⟨rfl, hm9⟩
        have H9 := Lib.hid (HM.out.trans' hm9)
        clear ha hm9
        go_wp2
        go_ret
        exact ⟨rfl, H9.out.below _ (Nat.le_refl _) (fun _ _ x => x)⟩

set_option maxRecDepth 100000 in
set_option maxHeartbeats 2000000 in
theorem heapLeast_walk (words many free other : Int) (w : World) (_w0 : (Lit.int .i64 words).wf = true) (_w1 : (Lit.int .i64 many).wf = true) (_w2 : (Lit.int .i64 free).wf = true) (_w3 : (Lit.int .i64 other).wf = true) (hT : Tab64 w) :
    Calls Tryd.prog 3 #[.int .i64 words, .int .i64 many, .int .i64 free, .int .i64 other] w fun e w' => e = .returned (.bool true) ∧ Below w.heap.size w w' := by
  by_cases hall : (1 ≤ words ∧ words ≤ 28) ∧ (1 ≤ other ∧ other ≤ 28) ∧ clsOf words ≠ clsOf other ∧ (1 ≤ many ∧ many ≤ 40) ∧ (0 ≤ free ∧ free < many)
  · obtain ⟨⟨a1, a2⟩, ⟨b1, b2⟩, c1, ⟨d1, d2⟩, e1, e2⟩ := hall
    obtain ⟨m, rfl⟩ : ∃ m : Nat, many = m := ⟨many.toNat, by omega⟩
    obtain ⟨f, rfl⟩ : ∃ f : Nat, free = f := ⟨free.toNat, by omega⟩
    exact least_in words other m f w hT a1 a2 b1 b2 c1 (by omega) (by omega) (by omega)
  · have HT := Lib.hid hT
    have hbad : ((cof words).2.2 != 0) = true ∨ ((cof words).2.2 != 0) = false ∧ (((cof other).2.2 != 0) = true ∨ ((cof other).2.2 != 0) = false ∧ ((cof words).2.1 = false ∨ (cof words).2.1 = true ∧ ((cof other).2.1 = false ∨ (cof other).2.1 = true ∧ (((cof words).1 == (cof other).1) = true ∨ ((cof words).1 == (cof other).1) = false ∧
        (decide (many < 1) = true ∨ decide (many < 1) = false ∧ (decide (40 < many) = true ∨ decide (40 < many) = false ∧ (decide (free < 0) = true ∨ decide (free < 0) = false ∧ decide (many ≤ free) = true))))))) := by
      by_cases k1 : words < 1 ∨ 4000 < words
      · exact .inl (by rw [cof_bad k1]; rfl)
      have k1e : ((cof words).2.2 != 0) = false := by
        by_cases h : words ≤ 28
        · rw [cof_small (by omega) h]; rfl
        · rw [cof_large (by omega) (by omega)]; rfl
      refine .inr ⟨k1e, ?_⟩
      by_cases k2 : other < 1 ∨ 4000 < other
      · exact .inl (by rw [cof_bad k2]; rfl)
      have k2e : ((cof other).2.2 != 0) = false := by
        by_cases h : other ≤ 28
        · rw [cof_small (by omega) h]; rfl
        · rw [cof_large (by omega) (by omega)]; rfl
      refine .inr ⟨k2e, ?_⟩
      by_cases k3 : 28 < words
      · exact .inl (by rw [cof_large (by omega) (by omega)])
      refine .inr ⟨by rw [cof_small (by omega) (by omega)], ?_⟩
      by_cases k4 : 28 < other
      · exact .inl (by rw [cof_large (by omega) (by omega)])
      refine .inr ⟨by rw [cof_small (by omega) (by omega)], ?_⟩
      rw [cof_small (n := words) (by omega) (by omega), cof_small (n := other) (by omega) (by omega)]
      dsimp only
      by_cases k5 : clsOf words = clsOf other
      · exact .inl (beqT (by omega))
      refine .inr ⟨beqF (by omega), ?_⟩
      by_cases k6 : many < 1
      · exact .inl (ltT k6)
      refine .inr ⟨ltF (by omega), ?_⟩
      by_cases k7 : 40 < many
      · exact .inl (ltT k7)
      refine .inr ⟨ltF (by omega), ?_⟩
      by_cases k8 : free < 0
      · exact .inl (ltT k8)
      refine .inr ⟨ltF (by omega), leT ?_⟩
      refine Classical.byContradiction fun hc => hall ⟨by omega, by omega, k5, by omega, by omega⟩
    have hof1 := fun W => of_call words W
    have hof2 := fun W => of_call other W
    obtain ⟨c1, hc1⟩ : ∃ x, (cof words).1 = x := ⟨_, rfl⟩
    obtain ⟨c2, hc2⟩ : ∃ x, (cof words).2.1 = x := ⟨_, rfl⟩
    obtain ⟨c3, hc3⟩ : ∃ x, (cof words).2.2 = x := ⟨_, rfl⟩
    obtain ⟨d1, hd1⟩ : ∃ x, (cof other).1 = x := ⟨_, rfl⟩
    obtain ⟨d2, hd2⟩ : ∃ x, (cof other).2.1 = x := ⟨_, rfl⟩
    obtain ⟨d3, hd3⟩ : ∃ x, (cof other).2.2 = x := ⟨_, rfl⟩
    rw [hc1, hc2, hc3, hd1, hd2, hd3] at hbad
    have HOF1 : Hid (∀ W, Calls Tryd.prog 10 #[.int .i64 words] W fun e w' => e = .returned (.tuple #[.int .i64 c1, .bool c2, .int .i64 c3]) ∧ Mod No W w') := fun W => by have := hof1 W; rw [hc1, hc2, hc3] at this; exact this
    have HOF2 : Hid (∀ W, Calls Tryd.prog 10 #[.int .i64 other] W fun e w' => e = .returned (.tuple #[.int .i64 d1, .bool d2, .int .i64 d3]) ∧ Mod No W w') := fun W => by have := hof2 W; rw [hd1, hd2, hd3] at this; exact this
    clear hof1 hof2 hc1 hc2 hc3 hd1 hd2 hd3 hall
    rcases hbad with k1 | ⟨k1, k2 | ⟨k2, rfl | ⟨rfl, rfl | ⟨rfl, k5 | ⟨k5, k6 | ⟨k6, k7 | ⟨k7, k8 | ⟨k8, k9⟩⟩⟩⟩⟩⟩⟩⟩
    all_goals
      clear hT
      go_enter Tryd.func3, Tryd.ntmps3
      go_wp2_with fail
      refine (HOF1.out _).mono ?_
      rintro e wa ⟨rfl, hma⟩
      have HMA := Lib.hid hma
      clear hma
      go_wp2_with fail
      refine (HOF2.out _).mono ?_
      rintro e wb ⟨rfl, hmb⟩
      have HM := Lib.hid (HMA.out.trans' hmb)
      clear hmb HMA
      have ha := awake_call wb (HT.out.mod HM.out)
      go_wp2_with fail
      refine ha.mono ?_
      rintro e w9 ⟨rfl, hm9⟩
      have H9 := Lib.hid (HM.out.trans' hm9)
      clear ha hm9
      go_wp2
      go_ret
      exact ⟨rfl, H9.out.below _ (Nat.le_refl _) (fun _ _ x => x)⟩
end Go.Proofs.YtnkdopaajpbjfaaDoor
