/- nth and fill of package loftlaw07, walked: what they do with a store is what FillSpec says. Conditions: the store's records are as said; the table of math/bits holds what its initialiser lays. -/
import Derived.Test.YtmdnofojecncgaaGreatDoorFillSpec
import Derived.Test.YtmdnofojecncgaaGreatDoorCompactB
import Derived.Test.YtmdnofojecncgaaGreatDoorStoreMake
import Derived.Test.YtmdnofojecncgaaGreatDoorArgs
import Derived.Deep.RegionHeld3
import Derived.Laws.Cover3
import Derived.Deep.DeepCutAuto
import Derived.Deep.CutBlock
set_option linter.unusedVariables false
set_option linter.unusedSimpArgs false
set_option maxRecDepth 100000
namespace Go.Proofs.YtmdnofojecncgaaGreatDoor
open Go Go.RowKit

variable {F0 : Nat → Prop} {w0 w : World} {Ps : List Res}

theorem infoH7 : (Tryz.prog.info? 46).map (fun i => (i.zero, i.size, i.bytes)) = some (some (.int .u64 0), 1, 8) := by kernel_rfl
abbrev hdRow (v : Value) (n : Nat) (ls : List Int) : Res := rowAt 46 1 v n (ls.map (Value.int .u64))

theorem nth07_call (h : Sep F0 w0 w Ps) (i : Nat) {sa : Option Addr} {L cap : Nat} {ls : List Int} (hi : Ps[i]? = some (hdRow (.slice sa L cap) L ls)) (hl : ls.length = L) (hb : L ≤ 1000) (n : Int) (hn : -9223372036854775808 ≤ n ∧ n ≤ 9223372036854775807) :
    Calls Tryz.prog 27 #[.slice sa L cap, .int .i64 n] w fun e w' => e = .returned (.int .u64 (nthI ls n)) ∧ w = w' := by
  rcases Nat.eq_zero_or_pos L with h0 | h0
  · have e : nthI ls n = 0 := by unfold nthI; rw [if_pos (by omega)]
    rw [e]
    subst h0
    clear h hi hl e
    go_enter Tryz.func27, Tryz.ntmps27
    go_wp2
    go_ret
    exact ⟨rfl, rfl⟩
  · have hm : -(L : Int) < n.tmod (L : Int) ∧ n.tmod (L : Int) < (L : Int) := by
      have h1 := Int.tmod_lt_of_pos n (show (0 : Int) < (L : Int) by omega)
      have h2 := Int.tmod_lt_of_pos (-n) (show (0 : Int) < (L : Int) by omega)
      rw [Int.neg_tmod] at h2
      omega
    have hz : ((L : Int) == 0) = false := beqF (by omega)
    have hN : nthI ls n = ls.getD ((if n.tmod L < 0 then n.tmod L + L else n.tmod L).toNat) 0 := by unfold nthI; rw [hl, if_neg (by omega)]
    obtain ⟨m, hme⟩ : ∃ m, n.tmod (L : Int) = m := ⟨_, rfl⟩
    have hms : n.tmod (L : Int) = m := hme
    rw [hme] at hm hN
    rcases Int.lt_or_le m 0 with hneg | hpos
    · obtain ⟨k, hk⟩ := Int.eq_ofNat_of_zero_le (show 0 ≤ m + L by omega)
      have hkl : k < ls.length := by omega
      rw [if_pos hneg, hk, Int.toNat_natCast, List.getD_eq_getElem?_getD, List.getElem?_eq_getElem hkl, Option.getD_some] at hN
      rw [hN]
      obtain ⟨g, rfl, c, _⟩ := h.item i hi (o := k) (x := .int .u64 ls[k]) (by rw [List.getElem?_map, List.getElem?_eq_getElem hkl]; rfl)
      generalize ls[k] = x at *
      have hkL : (k : Int) < (L : Int) := by omega
      clear h hi hl hme hkl hN
      go_enter Tryz.func27, Tryz.ntmps27
      go_wp2
      go_ret
      exact ⟨rfl, rfl⟩
    · obtain ⟨k, hk⟩ := Int.eq_ofNat_of_zero_le hpos
      subst hk
      have hkl : k < ls.length := by omega
      rw [if_neg (by omega), Int.toNat_natCast, List.getD_eq_getElem?_getD, List.getElem?_eq_getElem hkl, Option.getD_some] at hN
      rw [hN]
      obtain ⟨g, rfl, c, _⟩ := h.item i hi (o := k) (x := .int .u64 ls[k]) (by rw [List.getElem?_map, List.getElem?_eq_getElem hkl]; rfl)
      generalize ls[k] = x at *
      have hkL : (k : Int) < (L : Int) := by omega
      clear h hi hl hme hkl hN
      go_enter Tryz.func27, Tryz.ntmps27
      go_wp2
      go_ret
      exact ⟨rfl, rfl⟩

theorem Recs.fwords {w : World} {sa : Option Addr} {len : Nat} {z : List (List Int)} (R0 : Recs w sa len [some .i64, some .i64, some .i64, some .u64] z) : FWords z := fun k r hk => by
  obtain ⟨hrl, hro⟩ := R0.ok _ (List.mem_of_getElem? hk)
  match r, hrl with
  | [d, nn, kk, x], _ =>
    have := bounds_u64 (hro 3 _ x rfl rfl)
    show 0 ≤ x ∧ x < 18446744073709551616
    omega

section
variable {X Y : Res} {tl : List Res} {i : Nat}
theorem app_set (hi : i < Ps.length) : ((Ps.set i X) ++ tl).set i Y = Ps.set i Y ++ tl := by rw [List.set_append_left _ _ (by rw [List.length_set]; exact hi), List.set_set]
theorem app_get (hi : i < Ps.length) : ((Ps.set i X) ++ tl)[i]? = some X := by rw [List.getElem?_append_left (by rw [List.length_set]; exact hi), List.getElem?_set, if_pos rfl, if_pos hi]
theorem app_tl (k : Nat) : ((Ps.set i X) ++ tl)[Ps.length + k]? = tl[k]? := by rw [List.getElem?_append_right (by rw [List.length_set]; omega), List.length_set, Nat.add_sub_cancel_left]
theorem app_tset (k : Nat) : ((Ps.set i X) ++ tl).set (Ps.length + k) Y = Ps.set i X ++ tl.set k Y := by rw [List.set_append_right _ _ (by rw [List.length_set]; omega), List.length_set, Nat.add_sub_cancel_left]
end

theorem drop_box {A : List Res} {r q : Res} (h : Sep F0 w0 w (A ++ [r, q])) : Sep F0 w0 w (A ++ [r]) := by
  have e : A ++ [r, q] = (A ++ [r]) ++ [q] := by simp
  rw [e] at h
  exact Sep.left h
/-- What stands behind so many calls. -/
def FRel (w0 : World) (Ps : List Res) (i b : Nat) (m la : Int) (s : FSt) (lv : Value) (wr : World) : Prop := Sep No w0 wr (Ps.set i (stR b m la s.S s.T) ++ [hdRow lv s.hs.length s.hs])

set_option maxRecDepth 100000 in
set_option maxHeartbeats 4000000 in
theorem fill_call (h : Sep No w0 w Ps) (i : Nat) {b : Nat} {m la : Int} {s0 : FSt} (hi : Ps[i]? = some (stR b m la s0.S s0.T)) (I : s0.Inv) (hs0 : s0.hs = []) (hT : Tab64 w0) {sa : Option Addr} {len cap : Nat} {z : List (List Int)} (R0 : Recs w0 sa len [some .i64, some .i64, some .i64, some .u64] z) (hlen : len ≤ 60) :
    Calls Tryz.prog 12 #[.pointer (some ⟨b, 0, none⟩), .slice sa len cap] w fun e w' => ∃ sl cl, e = .returned (.slice sl (frun s0 z len).hs.length cl) ∧ FRel w0 Ps i b m la (frun s0 z len) (.slice sl (frun s0 z len).hs.length cl) w' := by
  have hil := (List.getElem?_eq_some_iff.1 hi).1
  have hW : FWords z := fun k r hk => by
    obtain ⟨hrl, hro⟩ := R0.ok _ (List.mem_of_getElem? hk)
    match r, hrl with
    | [d, nn, kk, x], _ =>
      have := bounds_u64 (hro 3 _ x rfl rfl)
      show 0 ≤ x ∧ x < 18446744073709551616
      omega
  have hst : Hid (FRel w0 Ps i b m la (frun s0 z 0) (.slice none 0 0) w) := by
    show Sep No w0 w (Ps.set i (stR b m la s0.S s0.T) ++ [hdRow (.slice none 0 0) s0.hs.length s0.hs])
    rw [hs0, setSame hi]
    exact h.pushNil 46 1
  have HG := Lib.hid (And.intro I (And.intro hW (And.intro hs0 hil)))
  have HR := Lib.hid R0
  have HT := Lib.hid hT
  obtain ⟨i0, hi0, hz0, hz1, hz2⟩ := info_parts infoH7
  have HI := Lib.hid (And.intro hi0 (And.intro hz0 (And.intro hz1 hz2)))
  clear h hi I hs0 hT R0 hW hi0 hz0 hz1 hz2
  go_enter Tryz.func12, Tryz.ntmps12
  go_wp2_with fail
  go_loopw [5, 6] (fun lv iv wr => ∃ j : Nat, iv = .int .i64 j ∧ j ≤ len ∧ (∃ sl cl, lv = .slice sl (frun s0 z j).hs.length cl) ∧ FRel w0 Ps i b m la (frun s0 z j) lv wr) (fun _ iv _ => len - (RowKit.intOf iv).toNat)
  case atStart => exact ⟨0, rfl, Nat.zero_le _, ⟨none, 0, by rw [frun_zero, HG.out.2.2.1]; rfl⟩, hst.out⟩
  case round =>
    obtain ⟨j, rfl, hj, ⟨sl, cl, rfl⟩, h⟩ := hrel
    clear hst
    by_cases hlt : j < len
    · have hzj : z[j]? = some (z[j]'(by rw [HR.out.count]; exact hlt)) := List.getElem?_eq_getElem _
      have F := frun_step HG.out.1 HG.out.2.1 hzj
      have Ij := frun_inv HG.out.1 HG.out.2.1 j (by rw [HR.out.count]; omega)
      have hL := frun_len HG.out.1 HG.out.2.1 HG.out.2.2.1 j (by rw [HR.out.count]; omega)
      obtain ⟨hrl, hro⟩ := HR.out.ok _ (List.mem_of_getElem? hzj)
      obtain ⟨bb, off, rfl, hb, hc⟩ := HR.out.cells (by omega)
      generalize z[j]'(by rw [HR.out.count]; exact hlt) = r at *
      obtain ⟨s, hs⟩ : ∃ s, frun s0 z j = s := ⟨_, rfl⟩
      obtain ⟨s', hs'⟩ : ∃ s', frun s0 z (j + 1) = s' := ⟨_, rfl⟩
      have HS' := Lib.hid hs'
      rw [hs] at h F Ij hL ⊢
      rw [hs'] at F
      match r, hrl with
      | [d, nn, kk, x], _ =>
      unfold FRel at h
      have c0 := h.old (hc j _ hzj 0 _ d rfl rfl)
      have c1 := h.old (hc j _ hzj 1 _ nn rfl rfl)
      have c2 := h.old (hc j _ hzj 2 _ kk rfl rfl)
      have c3 := h.old (hc j _ hzj 3 _ x rfl rfl)
      have hd := bounds_i64 (hro 0 _ d rfl rfl)
      have hn := bounds_i64 (hro 1 _ nn rfl rfl)
      have hk := bounds_i64 (hro 2 _ kk rfl rfl)
      have hx := bounds_u64 (hro 3 _ x rfl rfl)
      simp only [List.length_cons, List.length_nil, Nat.add_zero, Nat.zero_add, Nat.reduceAdd, fv] at c0 c1 c2 c3
      have hbw : bb < wr.heap.size := by have := h.size; omega
      have hnr := Ij.nth_rng nn
      obtain ⟨n, hsn⟩ : ∃ n, s.hs.length = n := ⟨_, rfl⟩
      rw [hsn] at h hL ⊢
      have hlt' : (j : Int) < (len : Int) := by omega
      have h2 := h.pushCells #[.int .i64 d, .int .i64 nn, .int .i64 kk, .int .u64 x] 72
      rw [List.append_assoc] at h2
      obtain ⟨ob, hob⟩ : ∃ ob, wr.heap.size = ob := ⟨_, rfl⟩
      obtain ⟨W1, hW1⟩ : ∃ W1, wr.alloc (.cells #[.int .i64 d, .int .i64 nn, .int .i64 kk, .int .u64 x] 72) = W1 := ⟨_, rfl⟩
      rw [hob, hW1] at h2
      have h2 : Sep No w0 W1 (Ps.set i (stR b m la s.S s.T) ++ [hdRow (.slice sl n cl) n s.hs, cellsAt ob #[.int .i64 d, .int .i64 nn, .int .i64 kk, .int .u64 x] 72]) := h2
      have q0 := (h2.cell (Ps.length + 1) (app_tl 1) 0 (v := .int .i64 d) rfl).1
      have q1 := (h2.cell (Ps.length + 1) (app_tl 1) 1 (v := .int .i64 nn) rfl).1
      have q2 := (h2.cell (Ps.length + 1) (app_tl 1) 2 (v := .int .i64 kk) rfl).1
      have q3 := (h2.cell (Ps.length + 1) (app_tl 1) 3 (v := .int .u64 x) rfl).1
      have H2 := Lib.hid (And.intro h2 (And.intro Ij (And.intro hsn hnr)))
      have HJ1 : Hid (j + 1 ≤ len ∧ len - (j + 1) < len - j) := by exact Lib.hid ⟨by omega, by omega⟩
      clear h h2 Ij hsn hc hzj hro hb hnr hs hs'
      have hj60 : j ≤ 60 := by omega
      by_cases hd1 : d = 1
      · subst hd1
        obtain ⟨hd', er, M⟩ := F.isMake rfl
        have hc := stmake_call H2.out.1 i (app_get HG.out.2.2.2) (HT.out.mod H2.out.1.mod) M
        have hhs := F.hsMake H2.out.2.1 M
        have HM := Lib.hid (And.intro M hhs)
        by_cases he : er = 0
        · subst he
          clear M hhs F
          go_wp2_with fail
          try rw [hW1]
          refine hc.mono ?_
          rintro e w3 ⟨rfl, h3⟩
          rw [app_set HG.out.2.2.2] at h3
          obtain ⟨hi0, hz0, hz1, hz2⟩ := HI.out
          have hn60 : n ≤ 60 := by omega
          clear hc q0 q1 q2 q3 c0 c1 c2 c3 hW1 hob hbw
          go_wp2_with (at_builtin; refine wpList_append_sep1 h3 (Ps.length + 0) (app_tl 0) (by rfl) _ _ 38 rfl Tryz.underlying38 hi0 hz0 hz1 hz2 rfl (by rfl) _ _ (by rfl) (by simp) (by rfl) _ (by unfold maxLen; omega) (by omega) ?_)
          intro g1 cl1 w4 h4
          try rw [app_tset] at h4
          have h5 : Sep No w0 w4 (Ps.set i (stR b m la s'.S s'.T) ++ [hdRow (.slice (some ⟨g1, 0, none⟩) (n + 1) cl1) (n + 1) (s.hs ++ [hd'])]) := by
            have := drop_box h4
            unfold hdRow
            rw [List.map_append]
            exact this
          have H6 : Hid ((∃ sl cl, Value.slice (some ⟨g1, 0, none⟩) (n + 1) cl1 = .slice sl (frun s0 z (j + 1)).hs.length cl) ∧ FRel w0 Ps i b m la (frun s0 z (j + 1)) (.slice (some ⟨g1, 0, none⟩) (n + 1) cl1) w4) := by
            have e1 : s'.hs = s.hs ++ [hd'] := HM.out.2
            have e2 : s'.hs.length = n + 1 := by rw [e1, List.length_append, H2.out.2.2.1]; rfl
            rw [HS'.out, e2]
            refine ⟨⟨_, _, rfl⟩, ?_⟩
            unfold FRel
            rw [e1, List.length_append, H2.out.2.2.1]
            exact h5
          clear h3 h4 h5 hi0 hz0 hz1 hz2
          go_wp2_with fail
          go_roundw
          case rel => exact ⟨j + 1, by go_num, HJ1.out.1, H6.out⟩
          case measure => have := HJ1.out.2; simp [RowKit.intOf]; omega
        · have he' : (er == 0) = false := beqF he
          have HE := Lib.hid he
          clear M hhs F he
          go_wp2_with fail
          try rw [hW1]
          refine hc.mono ?_
          rintro e w3 ⟨rfl, h3⟩
          rw [app_set HG.out.2.2.2] at h3
          have H6 : Hid ((∃ sl' cl', Value.slice sl n cl = .slice sl' (frun s0 z (j + 1)).hs.length cl') ∧ FRel w0 Ps i b m la (frun s0 z (j + 1)) (.slice sl n cl) w3) := by
            have e1 : s'.hs = s.hs := by
              have := HM.out.2
              rw [if_neg HE.out, List.append_nil] at this
              exact this
            have e2 : s'.hs.length = n := by rw [e1, H2.out.2.2.1]
            rw [HS'.out, e2]
            refine ⟨⟨_, _, rfl⟩, ?_⟩
            unfold FRel
            rw [e1, H2.out.2.2.1]
            exact drop_box h3
          clear hc h3 q0 q1 q2 q3 c0 c1 c2 c3 hW1 hob hbw
          go_wp2_with fail
          go_roundw
          case rel => exact ⟨j + 1, by go_num, HJ1.out.1, H6.out⟩
          case measure => have := HJ1.out.2; simp [RowKit.intOf]; omega
      · have d1 : (d == 1) = false := beqF hd1
        by_cases hd2 : d = 2
        · subst hd2
          obtain ⟨er, D⟩ := F.isDrop rfl
          have hnth := nth07_call H2.out.1 (Ps.length + 0) (app_tl 0) H2.out.2.2.1 (by omega) nn (by omega)
          have hc := stdrop_call H2.out.1 i (app_get HG.out.2.2.2) H2.out.2.1.1 H2.out.2.2.2 D
          have HM := Lib.hid (F.hsDrop D)
          clear D F hd1
          go_wp2_with fail
          try rw [hW1]
          refine hnth.mono ?_
          rintro e w3 ⟨rfl, rfl⟩
          clear hnth
          go_wp2_with fail
          refine hc.mono ?_
          rintro e w3 ⟨rfl, h3⟩
          rw [app_set HG.out.2.2.2] at h3
          have H6 : Hid ((∃ sl' cl', Value.slice sl n cl = .slice sl' (frun s0 z (j + 1)).hs.length cl') ∧ FRel w0 Ps i b m la (frun s0 z (j + 1)) (.slice sl n cl) w3) := by
            have e1 : s'.hs = s.hs := HM.out
            have e2 : s'.hs.length = n := by rw [e1, H2.out.2.2.1]
            rw [HS'.out, e2]
            refine ⟨⟨_, _, rfl⟩, ?_⟩
            unfold FRel
            rw [e1, H2.out.2.2.1]
            exact drop_box h3
          clear hc h3 q0 q1 q2 q3 c0 c1 c2 c3 hW1 hob hbw
          go_wp2_with fail
          go_roundw
          case rel => exact ⟨j + 1, by go_num, HJ1.out.1, H6.out⟩
          case measure => have := HJ1.out.2; simp [RowKit.intOf]; omega
        · have d2 : (d == 2) = false := beqF hd2
          by_cases hd3 : d = 3
          · subst hd3
            obtain ⟨⟨er, P⟩, hT'⟩ := F.isPut rfl
            have h2d := H2.out.1.drew
            have hnth := nth07_call h2d (Ps.length + 0) (app_tl 0) H2.out.2.2.1 (by omega) nn (by omega)
            have hc := stput_call h2d i (app_get HG.out.2.2.2) H2.out.2.1.1 H2.out.2.2.2 hx.1 (by omega) P
            have HM := Lib.hid (And.intro (F.hsPut P) hT')
            clear P F hd1 hd2 h2d hT'
            go_wp2_with fail
            try rw [hW1]
            clear hW1 hob hbw c0 c1 c2 c3
            refine wp_region_held_drew (S := fun w' => w'.cell? ⟨ob, 1, none⟩ = some (.int .i64 nn) ∧ w'.cell? ⟨ob, 2, none⟩ = some (.int .i64 kk) ∧ w'.cell? ⟨ob, 3, none⟩ = some (.int .u64 x)) (by kernel_rfl) ⟨q1, q2, q3⟩ (fun hHeld => ?_)
            clear q0 q1 q2 q3
            refine wpAnyH_takeD (i := 0) (v := ?_) (some 47) rfl (by rfl) (by kernel_rfl) (by kernel_rfl) (by kernel_rfl) (fun _ _ _ h => h) (Or.inl ⟨by rfl, ?_⟩) (by assumption) ?_
            rotate_left
            · intro w hSw
              try dsimp only at hSw
              go_simp
              try with_reducible rfl
            simp only [Act.put, List.setIfInBounds_toArray, List.set_cons_zero, List.set_cons_succ]
            refine wpAnyH_takeD (i := 1) (v := ?_) (some 48) rfl (by rfl) (by kernel_rfl) (by kernel_rfl) (by kernel_rfl) (fun _ _ _ h => h) (Or.inl ⟨by rfl, ?_⟩) (by assumption) ?_
            rotate_left
            · intro w hSw
              try dsimp only at hSw
              go_simp
              try with_reducible rfl
            simp only [Act.put, List.setIfInBounds_toArray, List.set_cons_zero, List.set_cons_succ]
            refine wpAnyH_takeD (i := 2) (v := ?_) (some 49) rfl (by rfl) (by kernel_rfl) (by kernel_rfl) (by kernel_rfl) (fun _ _ _ h => h) (Or.inl ⟨by rfl, ?_⟩) (by assumption) ?_
            rotate_left
            · intro w hSw
              try dsimp only at hSw
              go_simp
              try with_reducible rfl
            simp only [Act.put, List.setIfInBounds_toArray, List.set_cons_zero, List.set_cons_succ]
            refine wpAnyH_takeD (i := 3) (v := ?_) (some 50) rfl (by rfl) (by kernel_rfl) (by kernel_rfl) (by kernel_rfl) (fun _ _ _ h => h) (Or.inl ⟨by rfl, ?_⟩) (by assumption) ?_
            rotate_left
            · intro w hSw
              try dsimp only at hSw
              go_simp
              try with_reducible rfl
            simp only [Act.put, List.setIfInBounds_toArray, List.set_cons_zero, List.set_cons_succ]
            refine wpAnyH_takeD (i := 5) (v := ?_) (some 52) rfl (by rfl) (by kernel_rfl) (by kernel_rfl) (by kernel_rfl) (fun _ _ _ h => h) (Or.inl ⟨by rfl, ?_⟩) (by assumption) ?_
            rotate_left
            · intro w hSw
              try dsimp only at hSw
              go_simp
              try with_reducible rfl
            simp only [Act.put, List.setIfInBounds_toArray, List.set_cons_zero, List.set_cons_succ]
            refine wpAnyH_takeD (i := 6) (v := ?_) (some 53) rfl (by rfl) (by kernel_rfl) (by kernel_rfl) (by kernel_rfl) (fun _ _ _ h => h) (Or.inl ⟨by rfl, ?_⟩) (by assumption) ?_
            rotate_left
            · intro w hSw
              try dsimp only at hSw
              go_simp
              try with_reducible rfl
            simp only [Act.put, List.setIfInBounds_toArray, List.set_cons_zero, List.set_cons_succ]
            refine wpAnyH_takeD (i := 7) (v := ?_) (some 54) rfl (by rfl) (by kernel_rfl) (by kernel_rfl) (by kernel_rfl) (fun _ _ _ h => h) (Or.inl ⟨by rfl, ?_⟩) (by assumption) ?_
            rotate_left
            · intro w hSw
              try dsimp only at hSw
              go_simp
              try with_reducible rfl
            simp only [Act.put, List.setIfInBounds_toArray, List.set_cons_zero, List.set_cons_succ]
            refine wpAnyH_takeD (i := 8) (v := ?_) (some 55) rfl (by rfl) (by kernel_rfl) (by kernel_rfl) (by kernel_rfl) (fun _ _ _ h => h) (Or.inl ⟨by rfl, ?_⟩) (by assumption) ?_
            rotate_left
            · intro w hSw
              try dsimp only at hSw
              go_simp
              try with_reducible rfl
            simp only [Act.put, List.setIfInBounds_toArray, List.set_cons_zero, List.set_cons_succ]
            refine wpAnyH_ready (rs := [4]) (by kernel_rfl) (by simp) ?_
            refine AllReadyH.cons rfl (fun K hK => ?_) AllReadyH.nil
            go_simp
            refine (hnth).mono ?_
            rintro e w3 ⟨rfl, rfl⟩
            refine hK.out _ _ hHeld (fun _ => ?_)
            clear hK K hnth
            try simp only [Act.put, List.setIfInBounds_toArray, List.set_cons_zero, List.set_cons_succ]
            refine wpAnyH_ready (rs := [9]) (by kernel_rfl) (by simp) ?_
            refine AllReadyH.cons rfl (fun K hK => ?_) AllReadyH.nil
            go_simp
            refine (hc).mono ?_
            rintro e w3 ⟨rfl, h3⟩
            have q1 := (h3.cell (Ps.length + 1) (by rw [app_set HG.out.2.2.2]; exact app_tl 1) 1 (v := .int .i64 nn) rfl).1
            have q2 := (h3.cell (Ps.length + 1) (by rw [app_set HG.out.2.2.2]; exact app_tl 1) 2 (v := .int .i64 kk) rfl).1
            have q3 := (h3.cell (Ps.length + 1) (by rw [app_set HG.out.2.2.2]; exact app_tl 1) 3 (v := .int .u64 x) rfl).1
            have HX := And.intro q1 (And.intro q2 q3)
            rw [app_set HG.out.2.2.2] at h3
            have H6 : Hid ((∃ sl' cl', Value.slice sl n cl = .slice sl' (frun s0 z (j + 1)).hs.length cl') ∧ FRel w0 Ps i b m la (frun s0 z (j + 1)) (.slice sl n cl) w3) := by
              have e1 : s'.hs = s.hs := HM.out.1
              have e2 : s'.hs.length = n := by rw [e1, H2.out.2.2.1]
              rw [HS'.out, e2]
              refine ⟨⟨_, _, rfl⟩, ?_⟩
              unfold FRel
              rw [e1, H2.out.2.2.1, HM.out.2]
              exact drop_box h3
            clear hc h3 q1 q2 q3
            refine hK.out _ _ HX (fun _ => ?_)
            clear hK K hHeld
            have hHeld := HX
            clear HX
            try simp only [Act.put, List.setIfInBounds_toArray, List.set_cons_zero, List.set_cons_succ]
            refine wpAnyH_done (by kernel_rfl) ?_ _
            clear hHeld
            go_wp2_with fail
            go_roundw
            case rel => exact ⟨j + 1, by go_num, HJ1.out.1, H6.out⟩
            case measure => have := HJ1.out.2; simp [RowKit.intOf]; omega
          · have d3 : (d == 3) = false := beqF hd3
            have hsame := F.isNone hd1 hd2 hd3
            have H6 : Hid ((∃ sl' cl', Value.slice sl n cl = .slice sl' (frun s0 z (j + 1)).hs.length cl') ∧ FRel w0 Ps i b m la (frun s0 z (j + 1)) (.slice sl n cl) W1) := by
              have e2 : s'.hs.length = n := by rw [hsame, H2.out.2.2.1]
              rw [HS'.out, e2]
              refine ⟨⟨_, _, rfl⟩, ?_⟩
              unfold FRel
              rw [hsame, H2.out.2.2.1]
              exact drop_box H2.out.1
            clear hd1 hd2 hd3 F hsame
            go_wp2_with fail
            try rw [hW1]
            go_roundw
            case rel => exact ⟨j + 1, by go_num, HJ1.out.1, by first | exact H6.out | (rw [hW1]; exact H6.out)⟩
            case measure => have := HJ1.out.2; simp [RowKit.intOf]; omega
    · obtain rfl : j = len := by omega
      have hlt2 : decide ((j : Int) < (j : Int)) = false := ltF (by omega)
      have HF := Lib.hid h
      clear hlt h
      go_wp2_with fail
      go_ret
      exact ⟨sl, cl, rfl, HF.out⟩
end Go.Proofs.YtmdnofojecncgaaGreatDoor
