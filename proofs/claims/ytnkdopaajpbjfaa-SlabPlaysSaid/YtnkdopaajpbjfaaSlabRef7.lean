/- The reference of layer 1 (loftref01): Move, walked. Conditions: the arena in memory is as said. -/
import Derived.Test.YtnkdopaajpbjfaaSlabRef6
namespace Go.Proofs.Ytnkdopaajpbjfaa
open Go Go.RowKit

variable {F : Nat → Prop} {w0 w : World}

theorem rs_shut3 {b : Nat} {S : Slb} {v : Value} {R : Res} (h : Sep F w0 w [cellsAt b #[.int .i64 S.quota, v] 48, rowAt 59 65 v S.pg.length (prow S.wd S.pg), R]) : Sep F w0 w [R, rslabR b S] := by
  have h2 : Sep F w0 w [R, cellsAt b #[.int .i64 S.quota, v] 48, rowAt 59 65 v S.pg.length (prow S.wd S.pg)] :=
    h.pick (fun i => if i = 0 then 2 else i - 1) (fun i hi => by match i, hi with | 0, _ => rfl | 1, _ => rfl | 2, _ => rfl) (fun i j hi hj hij => by match i, j, hi, hj with | 0, 1, _, _ => decide | 1, 0, _, _ => decide | 0, 2, _, _ => decide | 2, 0, _, _ => decide | 1, 2, _, _ => decide | 2, 1, _, _ => decide | 0, 0, _, _ => exact absurd rfl hij | 1, 1, _, _ => exact absurd rfl hij | 2, 2, _, _ => exact absurd rfl hij)
  exact (h2.shutStar 1 2 (by decide) rfl rfl rfl).shutEx 1 (fun v => starR (cellsAt b #[.int .i64 S.quota, v] 48) (rowAt 59 65 v S.pg.length (prow S.wd S.pg))) v rfl

namespace Slb
/-- The first words of a move are done. -/
def mvd (S : Slb) (to f i : Nat) : Slb := { S with wd := fun a => if to ≤ a ∧ a < to + i then S.wd (f + (a - to)) else S.wd a }
theorem mvd_zero (S : Slb) (to f : Nat) : S.mvd to f 0 = S := by
  unfold mvd
  have : (fun a => if to ≤ a ∧ a < to + 0 then S.wd (f + (a - to)) else S.wd a) = S.wd := by
    funext a
    rw [if_neg (by omega)]
  rw [this]
theorem mvd_succ {S : Slb} {to f i : Nat} (he : S.err ((to : Int) + (i : Int)) = 0) : (S.mvd to f i).write ((to : Int) + (i : Int)) (S.wd (f + i)) = (0, S.mvd to f (i + 1)) := by
  have he' : (S.mvd to f i).err ((to : Int) + (i : Int)) = 0 := by rw [← he]; exact err_pg rfl _
  rw [write_in he']
  unfold mvd
  congr 2
  funext a
  have e : ((to : Int) + (i : Int)).toNat = to + i := by omega
  rw [e]
  by_cases h : a = to + i
  · subst h
    rw [if_pos rfl, if_pos (by omega)]
    congr 1
    omega
  · rw [if_neg h]
    dsimp only
    by_cases h2 : to ≤ a ∧ a < to + i
    · rw [if_pos h2, if_pos (by omega)]
    · rw [if_neg h2, if_neg (by omega)]
/-- The words of a run. -/
def wds (S : Slb) (f i : Nat) : List Int := (List.range i).map fun k => S.wd (f + k)
theorem wds_succ (S : Slb) (f i : Nat) : S.wds f (i + 1) = S.wds f i ++ [S.wd (f + i)] := by simp [wds, List.range_succ]
theorem wds_len (S : Slb) (f i : Nat) : (S.wds f i).length = i := by simp [wds]
end Slb

set_option maxRecDepth 100000 in
theorem rmove_bad {b : Nat} {S : Slb} (h : Sep F w w [rslabR b S]) (to f n : Int) (hbad : n < 0 ∨ 262144 < n ∨ to < 0 ∨ f < 0 ∨ 67108864 ≤ to ∨ 67108864 ≤ f ∨ 67108864 - n < to ∨ 67108864 - n < f) :
    Calls Try.prog 34 #[.pointer (some ⟨b, 0, none⟩), .int .i64 to, .int .i64 f, .int .i64 n] w fun e w' => e = .returned (.int .i64 2) ∧ Sep F w w' [rslabR b S] := by
  have H := Lib.hid h
  clear h
  by_cases g1 : n < 0
  · have d1 : decide (n < 0) = true := ltT g1
    clear hbad
    go_enter Try.func34, Try.ntmps34
    go_wp2
    go_ret
    exact ⟨rfl, H.out⟩
  have d1 : decide (n < 0) = false := ltF (by omega)
  by_cases g2 : 262144 < n
  · have d2 : decide (262144 < n) = true := ltT g2
    clear hbad
    go_enter Try.func34, Try.ntmps34
    go_wp2
    go_ret
    exact ⟨rfl, H.out⟩
  have d2 : decide (262144 < n) = false := ltF (by omega)
  by_cases g3 : to < 0
  · have d3 : decide (to < 0) = true := ltT g3
    clear hbad
    go_enter Try.func34, Try.ntmps34
    go_wp2
    go_ret
    exact ⟨rfl, H.out⟩
  have d3 : decide (to < 0) = false := ltF (by omega)
  by_cases g4 : f < 0
  · have d4 : decide (f < 0) = true := ltT g4
    clear hbad
    go_enter Try.func34, Try.ntmps34
    go_wp2
    go_ret
    exact ⟨rfl, H.out⟩
  have d4 : decide (f < 0) = false := ltF (by omega)
  by_cases g5 : 67108864 ≤ to
  · have d5 : decide (67108864 ≤ to) = true := leT g5
    clear hbad
    go_enter Try.func34, Try.ntmps34
    go_wp2
    go_ret
    exact ⟨rfl, H.out⟩
  have d5 : decide (67108864 ≤ to) = false := leF (by omega)
  by_cases g6 : 67108864 ≤ f
  · have d6 : decide (67108864 ≤ f) = true := leT g6
    clear hbad
    go_enter Try.func34, Try.ntmps34
    go_wp2
    go_ret
    exact ⟨rfl, H.out⟩
  have d6 : decide (67108864 ≤ f) = false := leF (by omega)
  by_cases g7 : 67108864 - n < to
  · have d7 : decide (67108864 - n < to) = true := ltT g7
    clear hbad
    go_enter Try.func34, Try.ntmps34
    go_wp2
    go_ret
    exact ⟨rfl, H.out⟩
  have d7 : decide (67108864 - n < to) = false := ltF (by omega)
  have d8 : decide (67108864 - n < f) = true := ltT (by omega)
  clear hbad
  go_enter Try.func34, Try.ntmps34
  go_wp2
  go_ret
  exact ⟨rfl, H.out⟩


set_option maxRecDepth 100000 in
set_option maxHeartbeats 2000000 in
theorem rmove_ok {b : Nat} {S : Slb} (h : Sep F w w [rslabR b S]) (hS : S.Ok) (to f n : Nat) (hn : n ≤ 262144) (hto : to < 67108864) (hf : f < 67108864) (hto2 : to + n ≤ 67108864) (hf2 : f + n ≤ 67108864) {er : Int} {S' : Slb}
    (r : (if (List.range n).all (fun k => S.has (((f : Int) + (k : Int)) / 64) && S.has (((to : Int) + (k : Int)) / 64)) = true then (0, S.mvd to f n) else (5, S)) = (er, S')) :
    Calls Try.prog 34 #[.pointer (some ⟨b, 0, none⟩), .int .i64 to, .int .i64 f, .int .i64 n] w fun e w' => e = .returned (.int .i64 er) ∧ Sep F w w' [rslabR b S'] := by
  have d1 : decide ((n : Int) < 0) = false := ltF (by omega)
  have d2 : decide ((262144 : Int) < (n : Int)) = false := ltF (by omega)
  have d3 : decide ((to : Int) < 0) = false := ltF (by omega)
  have d4 : decide ((f : Int) < 0) = false := ltF (by omega)
  have d5 : decide ((67108864 : Int) ≤ (to : Int)) = false := leF (by omega)
  have d6 : decide ((67108864 : Int) ≤ (f : Int)) = false := leF (by omega)
  have d7 : decide ((67108864 : Int) - (n : Int) < (to : Int)) = false := ltF (by omega)
  have d8 : decide ((67108864 : Int) - (n : Int) < (f : Int)) = false := ltF (by omega)
  have HR := Lib.hid r
  have HE : Hid (∀ x k : Nat, x + n ≤ 67108864 → k < n → (S.err ((x : Int) + (k : Int)) = 0 ↔ S.has (((x : Int) + (k : Int)) / 64) = true)) := fun x k hx hk => Slb.err_iff (by omega) (by omega)
  have HALL : Hid ((List.range n).all (fun k => S.has (((f : Int) + (k : Int)) / 64) && S.has (((to : Int) + (k : Int)) / 64)) = true → ∀ k, k < n → S.err ((f : Int) + (k : Int)) = 0 ∧ S.err ((to : Int) + (k : Int)) = 0) := by
    intro ha k hk
    have := List.all_eq_true.1 ha k (List.mem_range.2 hk)
    simp only [Bool.and_eq_true] at this
    exact ⟨(HE.out f k hf2 hk).2 this.1, (HE.out to k hto2 hk).2 this.2⟩
  have HALL2 : Hid ((∀ k, k < n → S.err ((f : Int) + (k : Int)) = 0 ∧ S.err ((to : Int) + (k : Int)) = 0) → (List.range n).all (fun k => S.has (((f : Int) + (k : Int)) / 64) && S.has (((to : Int) + (k : Int)) / 64)) = true) := by
    intro ha
    refine List.all_eq_true.2 fun k hk => ?_
    have hk := List.mem_range.1 hk
    have := ha k hk
    simp only [Bool.and_eq_true]
    exact ⟨(HE.out f k hf2 hk).1 this.1, (HE.out to k hto2 hk).1 this.2⟩
  have HS := Lib.hid hS
  have hlen : (S.pg.length : Int) ≤ 4096 := by have := Slb.len_le hS; omega
  obtain ⟨sa, cap, h4⟩ := rs_open h
  have HX : Hid (Sep F w w [cellsAt b #[.int .i64 S.quota, .slice sa S.pg.length cap] 48, rowAt 59 65 (.slice sa S.pg.length cap) S.pg.length (prow S.wd S.pg), rowAt 30 1 (.slice none 0 0) 0 []]) := h4.pushNil _ _
  obtain ⟨i0, hi0, hz0, hz1, hz2⟩ := info_parts infoU64
  have HI := Lib.hid (And.intro hi0 (And.intro hz0 (And.intro hz1 hz2)))
  clear h hS r h4 HE hi0 hz0 hz1 hz2
  go_enter Try.func34, Try.ntmps34
  go_wp2_with fail
  go_loopw [9, 10] (fun l i wr => ∃ t : Nat, t ≤ n ∧ i = .int .i64 t ∧ (∀ k, k < t → S.err ((f : Int) + (k : Int)) = 0 ∧ S.err ((to : Int) + (k : Int)) = 0) ∧ Sep F w wr [cellsAt b #[.int .i64 S.quota, .slice sa S.pg.length cap] 48, rowAt 59 65 (.slice sa S.pg.length cap) S.pg.length (prow S.wd S.pg), rowAt 30 1 l t ((S.wds f t).map (Value.int .u64))]) (fun _ i _ => n - (RowKit.intOf i).toNat)
  case atStart => exact ⟨0, Nat.zero_le _, rfl, fun k hk => by omega, HX.out⟩
  case round =>
    obtain ⟨t, ht, rfl, hall, h⟩ := hrel
    clear HX
    obtain ⟨sl, cl, rfl⟩ := h.form 2 rfl
    have HA := Lib.hid hall
    clear hall
    by_cases hlt : t < n
    · have c0 := (h.cell 0 rfl 0 (v := .int .i64 S.quota) rfl).1
      have c1 := (h.cell 0 rfl 1 (v := .slice sa S.pg.length cap) rfl).1
      have hlt' : (t : Int) < (n : Int) := by omega
      have bb1 : (f : Int) + (t : Int) ≤ 67108864 := by omega
      have bb2 : (to : Int) + (t : Int) ≤ 67108864 := by omega
      have bb3 : (0 : Int) ≤ (t : Int) := by omega
      have hc := rread_call (h.row 1 rfl) HS.out ((f : Int) + (t : Int))
      have hd := fun (wx : World) (hm : Mod No wr wx) => rread_call ((h.more hm).row 1 rfl) HS.out ((to : Int) + (t : Int))
      have HD := Lib.hid hd
      have H := Lib.hid h
      clear h hd
      obtain ⟨x1, hx1⟩ : ∃ x, S.read ((f : Int) + (t : Int)) = x := ⟨_, rfl⟩
      obtain ⟨x2, hx2⟩ : ∃ x, S.read ((to : Int) + (t : Int)) = x := ⟨_, rfl⟩
      have HX1 := Lib.hid hx1
      have HX2 := Lib.hid hx2
      rw [hx1] at hc
      rw [hx2] at HD
      clear hx1 hx2
      obtain ⟨v1, r1⟩ := x1
      obtain ⟨v2, r2⟩ := x2
      have hr1 : r1 = S.err ((f : Int) + (t : Int)) := by
        have := HX1.out
        unfold Slb.read at this
        split at this
        · rename_i h0; rw [h0]; cases this; rfl
        · cases this; rfl
      have hr2 : r2 = S.err ((to : Int) + (t : Int)) := by
        have := HX2.out
        unfold Slb.read at this
        split at this
        · rename_i h0; rw [h0]; cases this; rfl
        · cases this; rfl
      have HR1 := Lib.hid hr1
      have HR2 := Lib.hid hr2
      clear hr1 hr2
      by_cases e1 : r1 = 0
      · subst e1
        by_cases e2 : r2 = 0
        · subst e2
          have hv1 := Lib.hid (show v1 = S.wd (f + t) from by
            have := HX1.out
            rw [Slb.read_in HR1.out.symm] at this
            have e : ((f : Int) + (t : Int)).toNat = f + t := by omega
            rw [e] at this
            cases this
            rfl)
          go_wp2_with fail
          refine hc.mono ?_
          rintro e w1 ⟨rfl, hm⟩
          have hd := HD.out w1 hm
          have c0 := hm.cell c0 (fun x => x)
          have c1 := hm.cell c1 (fun x => x)
          have H := Lib.hid (H.out.more hm)
          clear hc hm HD
          go_wp2_with fail
          refine hd.mono ?_
          rintro e w2 ⟨rfl, hm⟩
          have h := H.out.more hm
          obtain ⟨hi0, hz0, hz1, hz2⟩ := HI.out
          clear hd hm
          go_wp2_with (at_builtin; refine wpList_append_sep1 h 2 rfl (by rfl) _ _ 44 rfl Try.underlying44 hi0 hz0 hz1 hz2 rfl (by rfl) _ _ (by rfl) (by simp) (by rfl) _ (by unfold maxLen; omega) (by omega) ?_)
          intro gg capg w3 h3
          have H3 := Lib.hid h3
          clear h3 h hi0 hz0 hz1 hz2 H
          go_wp2
          go_roundw
          case rel =>
            refine ⟨t + 1, by omega, by go_num, fun k hk => ?_, ?_⟩
            · rcases Nat.lt_or_ge k t with hk2 | hk2
              · exact HA.out k hk2
              · obtain rfl : k = t := by omega
                exact ⟨HR1.out.symm, HR2.out.symm⟩
            · rw [Slb.wds_succ, List.map_append, List.map_cons, List.map_nil, ← hv1.out]
              exact H3.out
          case measure => simp [RowKit.intOf]; omega
        · have hne : (r2 != 0) = true := bneT e2
          have hfin := Lib.hid (show er = 5 ∧ S' = S from by
            have r := HR.out
            rw [if_neg (fun ha => e2 (HR2.out.trans (HALL.out ha t hlt).2))] at r
            cases r
            exact ⟨rfl, rfl⟩)
          clear e2
          go_wp2_with fail
          refine hc.mono ?_
          rintro e w1 ⟨rfl, hm⟩
          have hd := HD.out w1 hm
          have c0 := hm.cell c0 (fun x => x)
          have c1 := hm.cell c1 (fun x => x)
          have H := Lib.hid (H.out.more hm)
          clear hc hm HD
          go_wp2_with fail
          refine hd.mono ?_
          rintro e w2 ⟨rfl, hm⟩
          have h := H.out.more hm
          have H5 := Lib.hid (show Sep F w w2 [rslabR b S] from (rs_shut3 h).pick (fun _ => 1) (fun i hi => by match i, hi with | 0, _ => rfl) (fun i j hi hj hij => by match i, j, hi, hj with | 0, 0, _, _ => exact absurd rfl hij))
          clear hd hm h
          go_wp2
          go_ret
          exact ⟨by rw [hfin.out.1]; rfl, by rw [hfin.out.2]; exact H5.out⟩
      · have hne : (r1 != 0) = true := bneT e1
        have hfin := Lib.hid (show er = 5 ∧ S' = S from by
          have r := HR.out
          rw [if_neg (fun ha => e1 (HR1.out.trans (HALL.out ha t hlt).1))] at r
          cases r
          exact ⟨rfl, rfl⟩)
        clear e1
        go_wp2_with fail
        refine hc.mono ?_
        rintro e w1 ⟨rfl, hm⟩
        have hd := HD.out w1 hm
        have c0 := hm.cell c0 (fun x => x)
        have c1 := hm.cell c1 (fun x => x)
        have H := Lib.hid (H.out.more hm)
        clear hc hm HD
        go_wp2_with fail
        refine hd.mono ?_
        rintro e w2 ⟨rfl, hm⟩
        have h := H.out.more hm
        have H5 := Lib.hid (show Sep F w w2 [rslabR b S] from (rs_shut3 h).pick (fun _ => 1) (fun i hi => by match i, hi with | 0, _ => rfl) (fun i j hi hj hij => by match i, j, hi, hj with | 0, 0, _, _ => exact absurd rfl hij))
        clear hd hm h
        go_wp2
        go_ret
        exact ⟨by rw [hfin.out.1]; rfl, by rw [hfin.out.2]; exact H5.out⟩
    · obtain rfl : n = t := by omega
      have hfin := Lib.hid (show er = 0 ∧ S' = S.mvd to f n from by
        have r := HR.out
        rw [if_pos (HALL2.out HA.out)] at r
        cases r
        exact ⟨rfl, rfl⟩)
      have HX := Lib.hid (rs_shut3 h)
      clear h hlt
      go_wp2_with fail
      go_loopw [15] (fun i wr => ∃ t : Nat, t ≤ n ∧ i = .int .i64 t ∧ (S.mvd to f t).Ok ∧ Sep F w wr [rowAt 30 1 (.slice sl n cl) n ((S.wds f n).map (Value.int .u64)), rslabR b (S.mvd to f t)]) (fun i _ => n - (RowKit.intOf i).toNat)
      case atStart => exact ⟨0, Nat.zero_le _, rfl, by rw [Slb.mvd_zero]; exact HS.out, by rw [Slb.mvd_zero]; exact HX.out⟩
      case round =>
        obtain ⟨t, ht, rfl, hok, h⟩ := hrel
        clear HX
        by_cases hlt : t < n
        · have hlt' : (t : Int) < (n : Int) := by omega
          have bb2 : (to : Int) + (t : Int) ≤ 67108864 := by omega
          have bb3 : (0 : Int) ≤ (t : Int) := by omega
          obtain ⟨g, rfl, cx, _⟩ := h.item 0 rfl (o := t) (x := .int .u64 (S.wd (f + t))) (by rw [List.getElem?_map, Slb.wds, List.getElem?_map, List.getElem?_range hlt]; rfl)
          have hwr := HS.out.words (f + t)
          have hw := Slb.mvd_succ (f := f) (HA.out t hlt).2
          have hok2 : (S.mvd to f (t + 1)).Ok := by
            have := Slb.write_ok hok ((to : Int) + (t : Int)) (S.wd (f + t)) hwr.1 hwr.2
            rw [hw] at this
            exact this
          have hc := h.lift 1 rfl fun F' hF => rwrite_call hF hok ((to : Int) + (t : Int)) (S.wd (f + t)) hwr.1 hwr.2 hw
          have HO := Lib.hid hok2
          generalize S.wd (f + t) = x at *
          clear hok hok2 h hw hwr
          go_wp2_with fail
          refine hc.mono ?_
          rintro e w1 ⟨rfl, h1⟩
          have H1 : Hid (Sep F w w1 [rowAt 30 1 (.slice (some ⟨g, 0, none⟩) n cl) n ((S.wds f n).map (Value.int .u64)), rslabR b (S.mvd to f (t + 1))]) := h1
          clear h1 hc
          go_wp2
          go_roundw
          case rel => exact ⟨t + 1, by omega, by go_num, HO.out, H1.out⟩
          case measure => simp [RowKit.intOf]; omega
        · obtain rfl : t = n := by omega
          have H5 := Lib.hid (show Sep F w wr [rslabR b (S.mvd to f t)] from h.pick (fun _ => 1) (fun i hi => by match i, hi with | 0, _ => rfl) (fun i j hi hj hij => by match i, j, hi, hj with | 0, 0, _, _ => exact absurd rfl hij))
          clear h hok
          go_wp2
          go_ret
          exact ⟨by rw [hfin.out.1]; rfl, by rw [hfin.out.2]; exact H5.out⟩

theorem rmove_call {b : Nat} {S : Slb} (h : Sep F w w [rslabR b S]) (hS : S.Ok) (to f n : Int) {er : Int} {S' : Slb} (r : S.move to f n = (er, S')) :
    Calls Try.prog 34 #[.pointer (some ⟨b, 0, none⟩), .int .i64 to, .int .i64 f, .int .i64 n] w fun e w' => e = .returned (.int .i64 er) ∧ Sep F w w' [rslabR b S'] := by
  by_cases hbad : n < 0 ∨ 262144 < n ∨ to < 0 ∨ f < 0 ∨ 67108864 ≤ to ∨ 67108864 ≤ f ∨ 67108864 - n < to ∨ 67108864 - n < f
  · unfold Slb.move at r
    rw [if_pos (by unfold Slb.moveBad; exact decide_eq_true (by omega))] at r
    cases r
    exact rmove_bad h to f n hbad
  · unfold Slb.move at r
    rw [if_neg (by unfold Slb.moveBad; rw [decide_eq_true_eq]; omega)] at r
    obtain ⟨f, rfl⟩ := Int.eq_ofNat_of_zero_le (show 0 ≤ f by omega)
    obtain ⟨to, rfl⟩ := Int.eq_ofNat_of_zero_le (show 0 ≤ to by omega)
    obtain ⟨n, rfl⟩ := Int.eq_ofNat_of_zero_le (show 0 ≤ n by omega)
    exact rmove_ok h hS to f n (by omega) (by omega) (by omega) (by omega) (by omega) r
end Go.Proofs.Ytnkdopaajpbjfaa
