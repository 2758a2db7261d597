/- CompactAmid, walked. Condition: the table of math/bits holds what its initialiser lays. -/
import Derived.Test.YtmdnofojecncgaaGreatDoorAmidWalk
set_option linter.unusedVariables false
set_option linter.unusedSimpArgs false
set_option maxRecDepth 100000
namespace Go.Proofs.YtmdnofojecncgaaGreatDoor
open Go Go.RowKit



theorem Puts.rlen {S S' : Slb} {T : HTbl} {H : List Ent} {R R' : List Rc} {hh k v er : Int} (P : Puts S T H R hh k v er S' R') : R'.length = R.length := by
  have := congrArg List.length P.hs
  rwa [List.length_map, List.length_map] at this
theorem Drops.rlen {S S' : Slb} {T T' : HTbl} {H H' : List Ent} {R R' : List Rc} {hh er : Int} (D : Drops S T H R hh er S' T' H' R') : R'.length = R.length := by
  have := congrArg List.length D.hs
  rwa [List.length_map, List.length_map] at this

def AmEnd (w : World) (b cb C1 b2 cb2 C2 : Nat) (S : Slb) (T : HTbl) (S2 : Slb) (T2 : HTbl) (lv : Value) (n : Nat) (hs : List Int) (wr : World) : Prop := Sep No w wr (AmPs b cb C1 b2 cb2 C2 S T S2 T2 lv n hs)


set_option maxRecDepth 100000 in
set_option maxHeartbeats 8000000 in
theorem amid_in {sa : Option Addr} {len cap : Nat} {z : List (List Int)} {sb : Option Addr} {len2 cap2 : Nat} {z2 : List (List Int)} (w : World) (R0 : Recs w sa len [some .i64, some .i64, some .i64, some .u64] z) (hlen : len ≤ 60) (R2 : Recs w sb len2 [some .i64] z2) (hlen2 : len2 ≤ 60) (hT : Tab64 w) :
    Calls Tryz.prog 6 #[.slice sa len cap, .slice sb len2 cap2] w fun e w' => e = .returned (.bool true) ∧ Below w.heap.size w w' := by
  have d4 : decide ((60 : Int) < (len : Int)) = false := ltF (by omega)
  have d5 : decide ((60 : Int) < (len2 : Int)) = false := ltF (by omega)
  have HR := Lib.hid (And.intro R0 hlen)
  have HR2 := Lib.hid (And.intro R2 hlen2)
  have HT := Lib.hid hT
  have hmd := made07_call 262144 1000 (by omega) (by omega) (by omega) (by omega)
  have HMD := Lib.hid hmd
  have hc1 := hmd w
  obtain ⟨i0, hi0, hz0, hz1, hz2⟩ := info_parts infoH7
  have HI := Lib.hid (And.intro hi0 (And.intro hz0 (And.intro hz1 hz2)))
  clear R0 R2 hT hmd hi0 hz0 hz1 hz2
  go_enter Tryz.func6, Tryz.ntmps6
  go_wp2_with fail
  refine hc1.mono ?_
  rintro e w1 ⟨b, cb, rfl, h1'⟩
  have h2 := h1'.pushCells (rsV 262144 1000 4294967295) 35
  obtain ⟨C1, hC1⟩ : ∃ C, w1.heap.size = C := ⟨_, rfl⟩
  obtain ⟨V1, hV1⟩ : ∃ W, w1.alloc (.cells (rsV 262144 1000 4294967295) 35) = W := ⟨_, rfl⟩
  rw [hC1, hV1] at h2
  have h2 : Sep No w V1 [stR b 1000 4294967295 (Slb.empty 262144) ⟨1000, 4294967295, []⟩, cpR cb b, cellsAt C1 (rsV 262144 1000 4294967295) 35] := h2
  obtain ⟨j4, g4⟩ := h2.cell 2 rfl 4 (v := .slice none 0 0) rfl
  obtain ⟨j5, g5⟩ := h2.cell 2 rfl 5 (v := .slice none 0 0) rfl
  have h3 := (h2.set 2 rfl 4 (.slice none 0 0)).set 2 rfl 5 (.slice none 0 0)
  have h3 : Sep No w ((V1.setCell ⟨C1, 4, none⟩ (.slice none 0 0)).setCell ⟨C1, 5, none⟩ (.slice none 0 0)) [stR b 1000 4294967295 (Slb.empty 262144) ⟨1000, 4294967295, []⟩, cpR cb b, cellsAt C1 (rsV 262144 1000 4294967295) 35] := h3
  generalize hW3 : ((V1.setCell ⟨C1, 4, none⟩ (.slice none 0 0)).setCell ⟨C1, 5, none⟩ (.slice none 0 0)) = W3 at h3
  have H3 := Lib.hid h3
  have hc2 := HMD.out W3
  clear h1' h2 h3 hc1
  go_wp2_with fail
  try rw [hW3]
  refine hc2.mono ?_
  rintro e w4 ⟨b2, cb2, rfl, h4⟩
  have h5 := H3.out.join h4
  have h6 := h5.pushCells (rsV 262144 1000 4294967295) 35
  clear j4 g4 j5 g5 hC1 hV1 hW3 hc2 H3 h4 h5
  obtain ⟨C2, hC2⟩ : ∃ C, w4.heap.size = C := ⟨_, rfl⟩
  obtain ⟨V2, hV2⟩ : ∃ W, w4.alloc (.cells (rsV 262144 1000 4294967295) 35) = W := ⟨_, rfl⟩
  rw [hC2, hV2] at h6
  have h6 : Sep No w V2 [stR b 1000 4294967295 (Slb.empty 262144) ⟨1000, 4294967295, []⟩, cpR cb b, cellsAt C1 (rsV 262144 1000 4294967295) 35, stR b2 1000 4294967295 (Slb.empty 262144) ⟨1000, 4294967295, []⟩, cpR cb2 b2, cellsAt C2 (rsV 262144 1000 4294967295) 35] := h6
  obtain ⟨j4, g4⟩ := h6.cell 5 rfl 4 (v := .slice none 0 0) rfl
  obtain ⟨j5, g5⟩ := h6.cell 5 rfl 5 (v := .slice none 0 0) rfl
  have h7 := ((h6.set 5 rfl 4 (.slice none 0 0)).set 5 rfl 5 (.slice none 0 0)).pushNil 46 1
  generalize hW7 : ((V2.setCell ⟨C2, 4, none⟩ (.slice none 0 0)).setCell ⟨C2, 5, none⟩ (.slice none 0 0)) = W7 at h7
  have H8 : Hid (AmRel w b cb C1 b2 cb2 C2 0 (.slice none 0 0) W7) := Lib.hid ⟨_, _, _, _, _, _, _, _, Twin.start, ⟨none, 0, rfl⟩, h7⟩
  clear h6 h7
  go_wp2_with fail
  try rw [hW7]
  clear j4 g4 j5 g5 hC2 hV2 hW7
  go_loopw [13, 14] (fun lv iv wr => ∃ j : Nat, iv = .int .i64 j ∧ j ≤ len ∧ AmRel w b cb C1 b2 cb2 C2 j lv wr) (fun _ iv _ => len - (RowKit.intOf iv).toNat)
  case atStart => exact ⟨0, rfl, Nat.zero_le _, H8.out⟩
  case round =>
    obtain ⟨j, rfl, hj, S, T, H, R, S2, T2, E2, Q2, W, ⟨sl, cl, rfl⟩, h⟩ := hrel
    clear H8
    by_cases hlt : j < len
    · have hzj : z[j]? = some (z[j]'(by rw [HR.out.1.count]; exact hlt)) := List.getElem?_eq_getElem _
      obtain ⟨hrl, hro⟩ := HR.out.1.ok _ (List.mem_of_getElem? hzj)
      obtain ⟨bb, off, rfl, hb, hc⟩ := HR.out.1.cells (by omega)
      generalize z[j]'(by rw [HR.out.1.count]; exact hlt) = r at *
      match r, hrl with
      | [d, nn, kk, x], _ =>
      have c0 := h.old (hc j _ hzj 0 _ d rfl rfl)
      have c1 := h.old (hc j _ hzj 1 _ nn rfl rfl)
      have c2 := h.old (hc j _ hzj 2 _ kk rfl rfl)
      have c3 := h.old (hc j _ hzj 3 _ x rfl rfl)
      have hd := bounds_i64 (hro 0 _ d rfl rfl)
      have hn := bounds_i64 (hro 1 _ nn rfl rfl)
      have hk := bounds_i64 (hro 2 _ kk rfl rfl)
      have hx := bounds_u64 (hro 3 _ x rfl rfl)
      simp only [List.length_cons, List.length_nil, Nat.add_zero, Nat.zero_add, Nat.reduceAdd, fv] at c0 c1 c2 c3
      have hbw : bb < wr.heap.size := by have := h.size; omega
      obtain ⟨hN1, hN2, hN3⟩ := W.named nn
      have hwl := W.len
      obtain ⟨hs, hhs⟩ : ∃ hs, R.map (·.h) = hs := ⟨_, rfl⟩
      obtain ⟨n, hsn⟩ : ∃ n, R.length = n := ⟨_, rfl⟩
      have hhl : hs.length = n := by rw [← hhs, List.length_map, hsn]
      rw [hsn] at h hwl ⊢
      rw [hhs] at h hN1 hN2 hN3
      have hlt' : (j : Int) < (len : Int) := by omega
      have h2 := h.pushCells #[.int .i64 d, .int .i64 nn, .int .i64 kk, .int .u64 x] 72
      obtain ⟨ob, hob⟩ : ∃ ob, wr.heap.size = ob := ⟨_, rfl⟩
      obtain ⟨W1, hW1⟩ : ∃ W1, wr.alloc (.cells #[.int .i64 d, .int .i64 nn, .int .i64 kk, .int .u64 x] 72) = W1 := ⟨_, rfl⟩
      rw [hob, hW1] at h2
      have h2 : Sep No w W1 (AmPs b cb C1 b2 cb2 C2 S T S2 T2 (.slice sl n cl) n hs ++ [cellsAt ob #[.int .i64 d, .int .i64 nn, .int .i64 kk, .int .u64 x] 72]) := h2
      have q0 := (h2.cell 7 rfl 0 (v := .int .i64 d) rfl).1
      have q1 := (h2.cell 7 rfl 1 (v := .int .i64 nn) rfl).1
      have q2 := (h2.cell 7 rfl 2 (v := .int .i64 kk) rfl).1
      have q3 := (h2.cell 7 rfl 3 (v := .int .u64 x) rfl).1
      have hnth := nth07_call h2 6 rfl hhl (by omega) nn (by omega)
      have HNm := Lib.hid (And.intro hN1 hN2)
      have HN := Lib.hid hN3
      have HL := Lib.hid (And.intro hsn hhs)
      have HHL := Lib.hid hhl
      have H2 := Lib.hid h2
      have HW := Lib.hid W
      have HJ1 : Hid (j + 1 ≤ len ∧ len - (j + 1) < len - j) := by exact Lib.hid ⟨by omega, by omega⟩
      have hj60 : j < 60 := by have := HR.out.2; omega
      have hn60 : n ≤ 60 := by omega
      obtain ⟨hh, hhe⟩ : ∃ hh, nthI hs nn = hh := ⟨_, rfl⟩
      rw [hhe] at hnth HNm HN
      clear h h2 W hsn hc hzj hro hb hN1 hN2 hN3 hhs hhl hhe hwl hlt
      by_cases hd1 : d = 1
      · subst hd1
        go_wp2_with fail
        try rw [hW1]
        refine hnth.mono ?_
        rintro e w3 ⟨rfl, rfl⟩
        obtain ⟨hda, er, S', T', H', R', M⟩ := HW.out.i1.made kk
        obtain ⟨hdb, er2, S2', T2', H2', R2', M2⟩ := HW.out.i2.made kk
        obtain ⟨rfl, rfl, W'⟩ := HW.out.made hj60 M M2
        have hm1 := stmake_call H2.out 0 rfl (HT.out.mod H2.out.mod) M
        have HM := Lib.hid (And.intro M M2)
        have HW' := Lib.hid W'
        have dv : (hdb != hdb) = false := bneF rfl
        have de : (er2 != er2) = false := bneF rfl
        clear hnth hW1 M M2 W'
        go_wp2_with fail
        refine hm1.mono ?_
        rintro e w4 ⟨rfl, h4⟩
        have h4 : Sep No w w4 (AmPs b cb C1 b2 cb2 C2 S' T' S2 T2 (.slice sl n cl) n hs ++ [cellsAt ob #[.int .i64 1, .int .i64 nn, .int .i64 kk, .int .u64 x] 72]) := h4
        have hm2 := stmake_call h4 3 rfl (HT.out.mod h4.mod) HM.out.2
        have p2 := (h4.cell 7 rfl 2 (v := .int .i64 kk) rfl).1
        clear hm1 h4 q0 q1 q2 q3 c0 c1 c2 c3
        go_wp2_with fail
        refine hm2.mono ?_
        rintro e w5 ⟨rfl, h5⟩
        have h5 : Sep No w w5 (AmPs b cb C1 b2 cb2 C2 S' T' S2' T2' (.slice sl n cl) n hs ++ [cellsAt ob #[.int .i64 1, .int .i64 nn, .int .i64 kk, .int .u64 x] 72]) := h5
        clear hm2 p2
        by_cases he : er2 = 0
        · subst he
          obtain ⟨hi0, hz0, hz1, hz2⟩ := HI.out
          go_wp2_with (at_builtin; refine wpList_append_sep1 h5 6 rfl (by rfl) _ _ 38 rfl Tryz.underlying38 hi0 hz0 hz1 hz2 rfl (by rfl) _ _ (by rfl) (by simp) (by rfl) _ (by unfold maxLen; omega) (by omega) ?_)
          intro g1 cl1 w6 h6
          have HE : Hid (AmRel w b cb C1 b2 cb2 C2 (j + 1) (.slice (some ⟨g1, 0, none⟩) (n + 1) cl1) w6) := by
            have e1 : R'.map (·.h) = hs ++ [hdb] := by rw [HM.out.1.hs, HL.out.2]; rfl
            have e2 : R'.length = n + 1 := by have := congrArg List.length e1; rw [List.length_map, List.length_append, HHL.out] at this; exact this
            refine Lib.hid ⟨S', T', H', R', S2', T2', H2', R2', HW'.out, ⟨_, cl1, by rw [e2]⟩, ?_⟩
            rw [e1, e2]
            have := Sep.left (Ps := [_, _, _, _, _, _, _]) (Qs := [_]) h6
            unfold AmPs hdRow
            rw [List.map_append]
            exact this
          clear h5 h6 hi0 hz0 hz1 hz2
          by_cases hs2 : j < len2
          · obtain ⟨y, gs, os, hyr, rfl, hgs, cy⟩ := HR2.out.1.int_at hs2
            obtain ⟨S6, T6, H6, R6, S7, T7, H7, R7, W6, e6, h6⟩ := HE.out
            have cyw := h6.mod.cell cy (fun x => x)
            have hs2i : (j : Int) < (len2 : Int) := by omega
            have dS : decide ((j : Int) < (len2 : Int)) = true := ltT (by omega)
            by_cases hy : 0 < y
            · have dY : decide (0 < y) = true := ltT hy
              obtain ⟨K, hK⟩ : ∃ K : Nat, y.tmod 10 = (K : Int) := ⟨(y.tmod 10).toNat, by have := Int.tmod_nonneg 10 (show 0 ≤ y by omega); omega⟩
              have hK10 : K ≤ 10 := by have := Int.tmod_lt_of_pos y (show (0 : Int) < 10 by omega); omega
              have hrun := crun_call h6 0 1 (by omega) rfl rfl W6.i1 HT.out K (by omega)
              have HW6 := Lib.hid (And.intro W6 e6)
              clear h6 W6 e6 hs2 HE cy hgs
              go_wp2_with fail
              refine hrun.mono ?_
              rintro e wz ⟨nz, dz, S8, T8, H8, R8, ⟨rfl, A⟩, h8⟩
              have HZ := Lib.hid (AmRel.ran HW6.out.1 HW6.out.2 A h8)
              clear hrun A h8
              go_wp2_with fail
              go_roundw
              case rel => exact ⟨j + 1, by go_num, HJ1.out.1, HZ.out⟩
              case measure => have := HJ1.out.2; simp [RowKit.intOf]; omega
            · have dY : decide (0 < y) = false := ltF (by omega)
              clear h6 W6 e6 hs2 cy hy hgs
              go_wp2_with fail
              go_roundw
              case rel => exact ⟨j + 1, by go_num, HJ1.out.1, HE.out⟩
              case measure => have := HJ1.out.2; simp [RowKit.intOf]; omega
          · have dS : decide ((j : Int) < (len2 : Int)) = false := ltF (by omega)
            have dS2 : decide (j < len2) = false := decide_eq_false hs2
            clear hs2
            go_wp2_with fail
            go_roundw
            case rel => exact ⟨j + 1, by go_num, HJ1.out.1, HE.out⟩
            case measure => have := HJ1.out.2; simp [RowKit.intOf]; omega
        · have he' : (er2 == 0) = false := beqF he
          have HE : Hid (AmRel w b cb C1 b2 cb2 C2 (j + 1) (.slice sl n cl) w5) := by
            have e0 := (HM.out.1.err he).2.1
            refine Lib.hid ⟨S', T', H', R', S2', T2', H2', R2', HW'.out, ⟨sl, cl, by rw [e0, HL.out.1]⟩, ?_⟩
            rw [e0, HL.out.1, HL.out.2]
            exact Sep.left (Ps := [_, _, _, _, _, _, _]) h5
          clear h5 he
          by_cases hs2 : j < len2
          · obtain ⟨y, gs, os, hyr, rfl, hgs, cy⟩ := HR2.out.1.int_at hs2
            obtain ⟨S6, T6, H6, R6, S7, T7, H7, R7, W6, e6, h6⟩ := HE.out
            have cyw := h6.mod.cell cy (fun x => x)
            have hs2i : (j : Int) < (len2 : Int) := by omega
            have dS : decide ((j : Int) < (len2 : Int)) = true := ltT (by omega)
            by_cases hy : 0 < y
            · have dY : decide (0 < y) = true := ltT hy
              obtain ⟨K, hK⟩ : ∃ K : Nat, y.tmod 10 = (K : Int) := ⟨(y.tmod 10).toNat, by have := Int.tmod_nonneg 10 (show 0 ≤ y by omega); omega⟩
              have hK10 : K ≤ 10 := by have := Int.tmod_lt_of_pos y (show (0 : Int) < 10 by omega); omega
              have hrun := crun_call h6 0 1 (by omega) rfl rfl W6.i1 HT.out K (by omega)
              have HW6 := Lib.hid (And.intro W6 e6)
              clear h6 W6 e6 hs2 HE cy hgs
              go_wp2_with fail
              refine hrun.mono ?_
              rintro e wz ⟨nz, dz, S8, T8, H8, R8, ⟨rfl, A⟩, h8⟩
              have HZ := Lib.hid (AmRel.ran HW6.out.1 HW6.out.2 A h8)
              clear hrun A h8
              go_wp2_with fail
              go_roundw
              case rel => exact ⟨j + 1, by go_num, HJ1.out.1, HZ.out⟩
              case measure => have := HJ1.out.2; simp [RowKit.intOf]; omega
            · have dY : decide (0 < y) = false := ltF (by omega)
              clear h6 W6 e6 hs2 cy hy hgs
              go_wp2_with fail
              go_roundw
              case rel => exact ⟨j + 1, by go_num, HJ1.out.1, HE.out⟩
              case measure => have := HJ1.out.2; simp [RowKit.intOf]; omega
          · have dS : decide ((j : Int) < (len2 : Int)) = false := ltF (by omega)
            have dS2 : decide (j < len2) = false := decide_eq_false hs2
            clear hs2
            go_wp2_with fail
            go_roundw
            case rel => exact ⟨j + 1, by go_num, HJ1.out.1, HE.out⟩
            case measure => have := HJ1.out.2; simp [RowKit.intOf]; omega
      · have d1 : (d == 1) = false := beqF hd1
        by_cases hd2 : d = 2
        · subst hd2
          obtain ⟨er, S', T', H', R', D⟩ := HW.out.i1.drops HNm.out.1
          obtain ⟨er2, S2', T2', H2', R2', D2⟩ := HW.out.i2.drops HNm.out.2
          obtain ⟨rfl, W'⟩ := HW.out.drops D D2
          have hm1 := stdrop_call H2.out 0 rfl HW.out.i1 HN.out D
          have HD := Lib.hid (And.intro D D2)
          have HW' := Lib.hid W'
          have de : (er2 != er2) = false := bneF rfl
          clear D D2 W' hd1
          go_wp2_with fail
          try rw [hW1]
          refine hnth.mono ?_
          rintro e w3 ⟨rfl, rfl⟩
          clear hnth hW1
          go_wp2_with fail
          refine hm1.mono ?_
          rintro e w4 ⟨rfl, h4⟩
          have h4 : Sep No w w4 (AmPs b cb C1 b2 cb2 C2 S' T' S2 T2 (.slice sl n cl) n hs ++ [cellsAt ob #[.int .i64 2, .int .i64 nn, .int .i64 kk, .int .u64 x] 72]) := h4
          have hm2 := stdrop_call h4 3 rfl HW.out.i2 HN.out HD.out.2
          clear hm1 h4 q0 q1 q2 q3 c0 c1 c2 c3
          go_wp2_with fail
          refine hm2.mono ?_
          rintro e w5 ⟨rfl, h5⟩
          have HE : Hid (AmRel w b cb C1 b2 cb2 C2 (j + 1) (.slice sl n cl) w5) := by
            refine Lib.hid ⟨S', T', H', R', S2', T2', H2', R2', HW'.out.up, ⟨sl, cl, by rw [HD.out.1.rlen, HL.out.1]⟩, ?_⟩
            rw [HD.out.1.rlen, HD.out.1.hs, HL.out.1, HL.out.2]
            exact Sep.left (Ps := [_, _, _, _, _, _, _]) (Qs := [_]) h5
          clear hm2 h5
          by_cases hs2 : j < len2
          · obtain ⟨y, gs, os, hyr, rfl, hgs, cy⟩ := HR2.out.1.int_at hs2
            obtain ⟨S6, T6, H6, R6, S7, T7, H7, R7, W6, e6, h6⟩ := HE.out
            have cyw := h6.mod.cell cy (fun x => x)
            have hs2i : (j : Int) < (len2 : Int) := by omega
            have dS : decide ((j : Int) < (len2 : Int)) = true := ltT (by omega)
            by_cases hy : 0 < y
            · have dY : decide (0 < y) = true := ltT hy
              obtain ⟨K, hK⟩ : ∃ K : Nat, y.tmod 10 = (K : Int) := ⟨(y.tmod 10).toNat, by have := Int.tmod_nonneg 10 (show 0 ≤ y by omega); omega⟩
              have hK10 : K ≤ 10 := by have := Int.tmod_lt_of_pos y (show (0 : Int) < 10 by omega); omega
              have hrun := crun_call h6 0 1 (by omega) rfl rfl W6.i1 HT.out K (by omega)
              have HW6 := Lib.hid (And.intro W6 e6)
              clear h6 W6 e6 hs2 HE cy hgs
              go_wp2_with fail
              refine hrun.mono ?_
              rintro e wz ⟨nz, dz, S8, T8, H8, R8, ⟨rfl, A⟩, h8⟩
              have HZ := Lib.hid (AmRel.ran HW6.out.1 HW6.out.2 A h8)
              clear hrun A h8
              go_wp2_with fail
              go_roundw
              case rel => exact ⟨j + 1, by go_num, HJ1.out.1, HZ.out⟩
              case measure => have := HJ1.out.2; simp [RowKit.intOf]; omega
            · have dY : decide (0 < y) = false := ltF (by omega)
              clear h6 W6 e6 hs2 cy hy hgs
              go_wp2_with fail
              go_roundw
              case rel => exact ⟨j + 1, by go_num, HJ1.out.1, HE.out⟩
              case measure => have := HJ1.out.2; simp [RowKit.intOf]; omega
          · have dS : decide ((j : Int) < (len2 : Int)) = false := ltF (by omega)
            have dS2 : decide (j < len2) = false := decide_eq_false hs2
            clear hs2
            go_wp2_with fail
            go_roundw
            case rel => exact ⟨j + 1, by go_num, HJ1.out.1, HE.out⟩
            case measure => have := HJ1.out.2; simp [RowKit.intOf]; omega
        · have d2 : (d == 2) = false := beqF hd2
          by_cases hd3 : d = 3
          · subst hd3
            obtain ⟨er, S', R', P⟩ := HW.out.i1.puts HNm.out.1 kk hx.1 (show x < 18446744073709551616 by omega)
            obtain ⟨er2, S2', R2', P2⟩ := HW.out.i2.puts HNm.out.2 kk hx.1 (show x < 18446744073709551616 by omega)
            obtain ⟨rfl, -⟩ := HW.out.puts P P2
            have de : (er2 != er2) = false := bneF rfl
            clear hd1 hd2
            go_wp2_with fail
            try rw [hW1]
            refine hnth.mono ?_
            rintro e w3 ⟨rfl, rfl⟩
            have h2d := H2.out.drew
            have hc1 := stput_call h2d 0 rfl HW.out.i1 HN.out hx.1 (by omega) P
            have hc2 := stput_call h2d 3 rfl HW.out.i2 HN.out hx.1 (by omega) P2
            clear hnth hW1 c0 c1 c2 c3 h2d
            go_wp2_with fail
            refine wp_region_held_drew (S := fun w' => w'.cell? ⟨ob, 1, none⟩ = some (.int .i64 nn) ∧ w'.cell? ⟨ob, 2, none⟩ = some (.int .i64 kk) ∧ w'.cell? ⟨ob, 3, none⟩ = some (.int .u64 x)) (by kernel_rfl) ⟨q1, q2, q3⟩ (fun hHeld => ?_)
            clear q0 q1 q2 q3
            refine wpAnyH_takeD (i := 0) (v := ?_) (some 109) rfl (by rfl) (by kernel_rfl) (by kernel_rfl) (by kernel_rfl) (fun _ _ _ h => h) (Or.inl ⟨by rfl, ?_⟩) (by assumption) ?_
            rotate_left
            · intro w hSw
              try dsimp only at hSw
              go_simp
              try with_reducible rfl
            simp only [Act.put, List.setIfInBounds_toArray, List.set_cons_zero, List.set_cons_succ]
            refine wpAnyH_takeD (i := 1) (v := ?_) (some 110) rfl (by rfl) (by kernel_rfl) (by kernel_rfl) (by kernel_rfl) (fun _ _ _ h => h) (Or.inl ⟨by rfl, ?_⟩) (by assumption) ?_
            rotate_left
            · intro w hSw
              try dsimp only at hSw
              go_simp
              try with_reducible rfl
            simp only [Act.put, List.setIfInBounds_toArray, List.set_cons_zero, List.set_cons_succ]
            refine wpAnyH_takeD (i := 2) (v := ?_) (some 111) rfl (by rfl) (by kernel_rfl) (by kernel_rfl) (by kernel_rfl) (fun _ _ _ h => h) (Or.inl ⟨by rfl, ?_⟩) (by assumption) ?_
            rotate_left
            · intro w hSw
              try dsimp only at hSw
              go_simp
              try with_reducible rfl
            simp only [Act.put, List.setIfInBounds_toArray, List.set_cons_zero, List.set_cons_succ]
            refine wpAnyH_takeD (i := 3) (v := ?_) (some 112) rfl (by rfl) (by kernel_rfl) (by kernel_rfl) (by kernel_rfl) (fun _ _ _ h => h) (Or.inl ⟨by rfl, ?_⟩) (by assumption) ?_
            rotate_left
            · intro w hSw
              try dsimp only at hSw
              go_simp
              try with_reducible rfl
            simp only [Act.put, List.setIfInBounds_toArray, List.set_cons_zero, List.set_cons_succ]
            refine wpAnyH_takeD (i := 4) (v := ?_) (some 113) rfl (by rfl) (by kernel_rfl) (by kernel_rfl) (by kernel_rfl) (fun _ _ _ h => h) (Or.inl ⟨by rfl, ?_⟩) (by assumption) ?_
            rotate_left
            · intro w hSw
              try dsimp only at hSw
              go_simp
              try with_reducible rfl
            simp only [Act.put, List.setIfInBounds_toArray, List.set_cons_zero, List.set_cons_succ]
            refine wpAnyH_takeD (i := 5) (v := ?_) (some 114) rfl (by rfl) (by kernel_rfl) (by kernel_rfl) (by kernel_rfl) (fun _ _ _ h => h) (Or.inl ⟨by rfl, ?_⟩) (by assumption) ?_
            rotate_left
            · intro w hSw
              try dsimp only at hSw
              go_simp
              try with_reducible rfl
            simp only [Act.put, List.setIfInBounds_toArray, List.set_cons_zero, List.set_cons_succ]
            refine wpAnyH_takeD (i := 7) (v := ?_) (some 116) rfl (by rfl) (by kernel_rfl) (by kernel_rfl) (by kernel_rfl) (fun _ _ _ h => h) (Or.inl ⟨by rfl, ?_⟩) (by assumption) ?_
            rotate_left
            · intro w hSw
              try dsimp only at hSw
              go_simp
              try with_reducible rfl
            simp only [Act.put, List.setIfInBounds_toArray, List.set_cons_zero, List.set_cons_succ]
            refine wpAnyH_takeD (i := 8) (v := ?_) (some 117) rfl (by rfl) (by kernel_rfl) (by kernel_rfl) (by kernel_rfl) (fun _ _ _ h => h) (Or.inl ⟨by rfl, ?_⟩) (by assumption) ?_
            rotate_left
            · intro w hSw
              try dsimp only at hSw
              go_simp
              try with_reducible rfl
            simp only [Act.put, List.setIfInBounds_toArray, List.set_cons_zero, List.set_cons_succ]
            refine wpAnyH_takeD (i := 9) (v := ?_) (some 118) rfl (by rfl) (by kernel_rfl) (by kernel_rfl) (by kernel_rfl) (fun _ _ _ h => h) (Or.inl ⟨by rfl, ?_⟩) (by assumption) ?_
            rotate_left
            · intro w hSw
              try dsimp only at hSw
              go_simp
              try with_reducible rfl
            simp only [Act.put, List.setIfInBounds_toArray, List.set_cons_zero, List.set_cons_succ]
            refine wpAnyH_takeD (i := 10) (v := ?_) (some 119) rfl (by rfl) (by kernel_rfl) (by kernel_rfl) (by kernel_rfl) (fun _ _ _ h => h) (Or.inl ⟨by rfl, ?_⟩) (by assumption) ?_
            rotate_left
            · intro w hSw
              try dsimp only at hSw
              go_simp
              try with_reducible rfl
            simp only [Act.put, List.setIfInBounds_toArray, List.set_cons_zero, List.set_cons_succ]
            refine wpAnyH_takeD (i := 11) (v := ?_) (some 120) rfl (by rfl) (by kernel_rfl) (by kernel_rfl) (by kernel_rfl) (fun _ _ _ h => h) (Or.inl ⟨by rfl, ?_⟩) (by assumption) ?_
            rotate_left
            · intro w hSw
              try dsimp only at hSw
              go_simp
              try with_reducible rfl
            simp only [Act.put, List.setIfInBounds_toArray, List.set_cons_zero, List.set_cons_succ]
            refine wpAnyH_takeD (i := 12) (v := ?_) (some 121) rfl (by rfl) (by kernel_rfl) (by kernel_rfl) (by kernel_rfl) (fun _ _ _ h => h) (Or.inl ⟨by rfl, ?_⟩) (by assumption) ?_
            rotate_left
            · intro w hSw
              try dsimp only at hSw
              go_simp
              try with_reducible rfl
            simp only [Act.put, List.setIfInBounds_toArray, List.set_cons_zero, List.set_cons_succ]
            refine wpAnyH_ready (rs := [6]) (by kernel_rfl) (by simp) ?_
            refine AllReadyH.cons rfl (fun K hK => ?_) AllReadyH.nil
            go_simp
            refine (hc1).mono ?_
            rintro e w3 ⟨rfl, h3⟩
            have h3 : Sep No w w3 (AmPs b cb C1 b2 cb2 C2 S' T S2 T2 (.slice sl n cl) n hs ++ [cellsAt ob #[.int .i64 3, .int .i64 nn, .int .i64 kk, .int .u64 x] 72]) := h3
            have hc2 := stput_call h3 3 rfl HW.out.i2 HN.out hx.1 (by omega) P2
            have HX : w3.cell? ⟨ob, 1, none⟩ = some (.int .i64 nn) ∧ w3.cell? ⟨ob, 2, none⟩ = some (.int .i64 kk) ∧ w3.cell? ⟨ob, 3, none⟩ = some (.int .u64 x) := ⟨(h3.cell 7 rfl 1 rfl).1, (h3.cell 7 rfl 2 rfl).1, (h3.cell 7 rfl 3 rfl).1⟩
            clear hc1 h3
            refine hK.out _ _ HX (fun _ => ?_)
            clear hK K hHeld
            have hHeld := HX
            clear HX
            try simp only [Act.put, List.setIfInBounds_toArray, List.set_cons_zero, List.set_cons_succ]
            refine wpAnyH_ready (rs := [13]) (by kernel_rfl) (by simp) ?_
            refine AllReadyH.cons rfl (fun K hK => ?_) AllReadyH.nil
            go_simp
            refine (hc2).mono ?_
            rintro e w4 ⟨rfl, h4⟩
            have h4 : Sep No w w4 (AmPs b cb C1 b2 cb2 C2 S' T S2' T2 (.slice sl n cl) n hs ++ [cellsAt ob #[.int .i64 3, .int .i64 nn, .int .i64 kk, .int .u64 x] 72]) := h4
            have HX : w4.cell? ⟨ob, 1, none⟩ = some (.int .i64 nn) ∧ w4.cell? ⟨ob, 2, none⟩ = some (.int .i64 kk) ∧ w4.cell? ⟨ob, 3, none⟩ = some (.int .u64 x) := ⟨(h4.cell 7 rfl 1 rfl).1, (h4.cell 7 rfl 2 rfl).1, (h4.cell 7 rfl 3 rfl).1⟩
            have HE : Hid (AmRel w b cb C1 b2 cb2 C2 (j + 1) (.slice sl n cl) w4) := by
              refine Lib.hid ⟨_, _, _, _, _, _, _, _, (HW.out.puts P P2).2.up, ⟨sl, cl, by rw [P.rlen, HL.out.1]⟩, ?_⟩
              rw [P.rlen, P.hs, HL.out.1, HL.out.2]
              exact Sep.left (Ps := [_, _, _, _, _, _, _]) h4
            clear h4 P P2 HW
            refine hK.out _ _ HX (fun _ => ?_)
            clear hK K hHeld
            have hHeld := HX
            clear HX
            try simp only [Act.put, List.setIfInBounds_toArray, List.set_cons_zero, List.set_cons_succ]
            refine wpAnyH_takeD (i := 14) (v := ?_) (some 123) rfl (by rfl) (by kernel_rfl) (by kernel_rfl) (by kernel_rfl) (fun _ _ _ h => h) (Or.inl ⟨by rfl, ?_⟩) (by assumption) ?_
            rotate_left
            · intro w hSw
              try dsimp only at hSw
              go_simp
              try with_reducible rfl
            simp only [Act.put, List.setIfInBounds_toArray, List.set_cons_zero, List.set_cons_succ]
            refine wpAnyH_done (by kernel_rfl) ?_ _
            clear hHeld
            by_cases hs2 : j < len2
            · obtain ⟨y, gs, os, hyr, rfl, hgs, cy⟩ := HR2.out.1.int_at hs2
              obtain ⟨S6, T6, H6, R6, S7, T7, H7, R7, W6, e6, h6⟩ := HE.out
              have cyw := h6.mod.cell cy (fun x => x)
              have hs2i : (j : Int) < (len2 : Int) := by omega
              have dS : decide ((j : Int) < (len2 : Int)) = true := ltT (by omega)
              by_cases hy : 0 < y
              · have dY : decide (0 < y) = true := ltT hy
                obtain ⟨K, hK⟩ : ∃ K : Nat, y.tmod 10 = (K : Int) := ⟨(y.tmod 10).toNat, by have := Int.tmod_nonneg 10 (show 0 ≤ y by omega); omega⟩
                have hK10 : K ≤ 10 := by have := Int.tmod_lt_of_pos y (show (0 : Int) < 10 by omega); omega
                have hrun := crun_call h6 0 1 (by omega) rfl rfl W6.i1 HT.out K (by omega)
                have HW6 := Lib.hid (And.intro W6 e6)
                clear h6 W6 e6 hs2 HE cy hgs
                go_wp2_with fail
                refine hrun.mono ?_
                rintro e wz ⟨nz, dz, S8, T8, H8, R8, ⟨rfl, A⟩, h8⟩
                have HZ := Lib.hid (AmRel.ran HW6.out.1 HW6.out.2 A h8)
                clear hrun A h8
                go_wp2_with fail
                go_roundw
                case rel => exact ⟨j + 1, by go_num, HJ1.out.1, HZ.out⟩
                case measure => have := HJ1.out.2; simp [RowKit.intOf]; omega
              · have dY : decide (0 < y) = false := ltF (by omega)
                clear h6 W6 e6 hs2 cy hy hgs
                go_wp2_with fail
                go_roundw
                case rel => exact ⟨j + 1, by go_num, HJ1.out.1, HE.out⟩
                case measure => have := HJ1.out.2; simp [RowKit.intOf]; omega
            · have dS : decide ((j : Int) < (len2 : Int)) = false := ltF (by omega)
              have dS2 : decide (j < len2) = false := decide_eq_false hs2
              clear hs2
              go_wp2_with fail
              go_roundw
              case rel => exact ⟨j + 1, by go_num, HJ1.out.1, HE.out⟩
              case measure => have := HJ1.out.2; simp [RowKit.intOf]; omega
          · have d3 : (d == 3) = false := beqF hd3
            have HE : Hid (AmRel w b cb C1 b2 cb2 C2 (j + 1) (.slice sl n cl) W1) := by
              refine Lib.hid ⟨S, T, H, R, S2, T2, E2, Q2, HW.out.up, ⟨sl, cl, by rw [HL.out.1]⟩, ?_⟩
              rw [HL.out.1, HL.out.2]
              exact Sep.left (Ps := [_, _, _, _, _, _, _]) H2.out
            clear hd1 hd2 hd3
            go_wp2_with fail
            try rw [hW1]
            refine hnth.mono ?_
            rintro e w3 ⟨rfl, rfl⟩
            clear hnth hW1 c0 c1 c2 c3
            by_cases hs2 : j < len2
            · obtain ⟨y, gs, os, hyr, rfl, hgs, cy⟩ := HR2.out.1.int_at hs2
              obtain ⟨S6, T6, H6, R6, S7, T7, H7, R7, W6, e6, h6⟩ := HE.out
              have cyw := h6.mod.cell cy (fun x => x)
              have hs2i : (j : Int) < (len2 : Int) := by omega
              have dS : decide ((j : Int) < (len2 : Int)) = true := ltT (by omega)
              by_cases hy : 0 < y
              · have dY : decide (0 < y) = true := ltT hy
                obtain ⟨K, hK⟩ : ∃ K : Nat, y.tmod 10 = (K : Int) := ⟨(y.tmod 10).toNat, by have := Int.tmod_nonneg 10 (show 0 ≤ y by omega); omega⟩
                have hK10 : K ≤ 10 := by have := Int.tmod_lt_of_pos y (show (0 : Int) < 10 by omega); omega
                have hrun := crun_call h6 0 1 (by omega) rfl rfl W6.i1 HT.out K (by omega)
                have HW6 := Lib.hid (And.intro W6 e6)
                clear h6 W6 e6 hs2 HE cy hgs
                go_wp2_with fail
                refine hrun.mono ?_
                rintro e wz ⟨nz, dz, S8, T8, H8, R8, ⟨rfl, A⟩, h8⟩
                have HZ := Lib.hid (AmRel.ran HW6.out.1 HW6.out.2 A h8)
                clear hrun A h8
                go_wp2_with fail
                go_roundw
                case rel => exact ⟨j + 1, by go_num, HJ1.out.1, HZ.out⟩
                case measure => have := HJ1.out.2; simp [RowKit.intOf]; omega
              · have dY : decide (0 < y) = false := ltF (by omega)
                clear h6 W6 e6 hs2 cy hy hgs
                go_wp2_with fail
                go_roundw
                case rel => exact ⟨j + 1, by go_num, HJ1.out.1, HE.out⟩
                case measure => have := HJ1.out.2; simp [RowKit.intOf]; omega
            · have dS : decide ((j : Int) < (len2 : Int)) = false := ltF (by omega)
              have dS2 : decide (j < len2) = false := decide_eq_false hs2
              clear hs2
              go_wp2_with fail
              go_roundw
              case rel => exact ⟨j + 1, by go_num, HJ1.out.1, HE.out⟩
              case measure => have := HJ1.out.2; simp [RowKit.intOf]; omega
    · have dI : decide ((j : Int) < (len : Int)) = false := ltF (by omega)
      have dI2 : decide (j < len) = false := decide_eq_false hlt
      have hR60 : R.length ≤ 60 := by have := W.len; have := HR.out.2; omega
      obtain ⟨p, hp⟩ : ∃ p, S.pg.length = p := ⟨_, rfl⟩
      have hpn : p ≤ 63 * R.length := by rw [← hp]; exact W.pages
      have HNA := Lib.hid (fun (i : Nat) (hi : i < R.length) => show ∃ (hh : Int) (l : List Int), (R.map (·.h))[i]? = some hh ∧ (0 ≤ hh ∧ hh < 18446744073709551616) ∧ l.length ≤ 4000 ∧ Told T R hh l ∧ Told T2 Q2 hh l by
        have hr := List.getElem?_eq_getElem hi
        have hg := W.i1.rng hr
        obtain ⟨a, hq, _⟩ := W.mv.2 i _ hr
        obtain ⟨l, hl⟩ := told_ex W.i1 (StInv.named T hr)
        obtain ⟨l2, hl2⟩ := told_ex W.i2 (StInv.named T2 hq)
        have e := Told.same W.i1 W.i2 W.mv hl hl2
        refine ⟨_, l, by rw [List.getElem?_map, hr]; rfl, ⟨hg.1, hg.2.1⟩, ?_, hl, by rw [e]; exact hl2⟩
        cases hl with
        | stale => simp
        | ok j r L => have := W.low r (List.mem_of_getElem? L.hj); simp; omega)
      obtain ⟨hs, hhs⟩ : ∃ hs, R.map (·.h) = hs := ⟨_, rfl⟩
      obtain ⟨n, hsn⟩ : ∃ n, R.length = n := ⟨_, rfl⟩
      rw [hhs, hsn] at h HNA
      rw [hsn] at hpn hR60 ⊢
      have HW := Lib.hid W
      have HP := Lib.hid hp
      have HE0 : Hid (AmEnd w b cb C1 b2 cb2 C2 S T S2 T2 (.slice sl n cl) n hs wr) := Lib.hid h
      have hw64 : IntKind.i64.wrap (64 * (n : Int)) = 64 * (n : Int) := by rw [IntKind.wrap_i64]; omega
      have hw70 : IntKind.i64.wrap (64 * (n : Int) * 70) = 64 * (n : Int) * 70 := by rw [IntKind.wrap_i64]; omega
      have hw71 : IntKind.i64.wrap (64 * (n : Int) * 70 + 64) = 64 * (n : Int) * 70 + 64 := by rw [IntKind.wrap_i64]; omega
      have hple : decide (64 * (p : Int) ≤ 64 * (n : Int) * 70 + 64) = true := leT (by omega)
      clear hlt W h hj hp hhs hsn
      go_wp2_with fail
      go_loopw [21] (fun iv wr => ∃ i : Nat, iv = .int .i64 i ∧ i ≤ n ∧ AmEnd w b cb C1 b2 cb2 C2 S T S2 T2 (.slice sl n cl) n hs wr) (fun iv _ => n - (RowKit.intOf iv).toNat)
      case atStart => exact ⟨0, rfl, Nat.zero_le _, HE0.out⟩
      case round =>
        obtain ⟨i, rfl, hi, h⟩ := hrel
        clear HE0
        unfold AmEnd at h
        by_cases hin : i < n
        · obtain ⟨hh, l, hhi, hhr, hll, htx, hty⟩ := HNA.out i hin
          obtain ⟨gl, rfl, cl0, _⟩ := h.item 6 rfl (o := i) (x := .int .u64 hh) (by rw [List.getElem?_map, hhi]; rfl)
          have hc1 := words07_call h.drew 0 rfl HW.out.i1 hhr htx
          have hc2 := words07_call h.drew 3 rfl HW.out.i2 hhr hty
          have HTD := Lib.hid (And.intro htx hty)
          have HG : Hid ((hs.map (Value.int .u64))[i]? = some (.int .u64 hh)) := by rw [List.getElem?_map, hhi]; exact Lib.hid rfl
          have hini : (i : Int) < (n : Int) := by omega
          have HK1 : Hid (i + 1 ≤ n ∧ n - (i + 1) < n - i) := by exact Lib.hid ⟨by omega, by omega⟩
          clear h hhi htx hty hin
          go_wp2_with fail
          refine wp_region_held_drew (S := fun w' => w'.cell? ⟨gl, i, none⟩ = some (.int .u64 hh)) (by kernel_rfl) cl0 (fun hHeld => ?_)
          clear cl0
          refine wpAnyH_takeD (i := 0) (v := ?_) (some 148) rfl (by rfl) (by kernel_rfl) (by kernel_rfl) (by kernel_rfl) (fun _ _ _ h => h) (Or.inl ⟨by rfl, ?_⟩) (by assumption) ?_
          rotate_left
          · intro w hSw
            try dsimp only at hSw
            go_simp
            try with_reducible rfl
          simp only [Act.put, List.setIfInBounds_toArray, List.set_cons_zero, List.set_cons_succ]
          refine wpAnyH_takeD (i := 1) (v := ?_) (some 149) rfl (by rfl) (by kernel_rfl) (by kernel_rfl) (by kernel_rfl) (fun _ _ _ h => h) (Or.inl ⟨by rfl, ?_⟩) (by assumption) ?_
          rotate_left
          · intro w hSw
            try dsimp only at hSw
            go_simp
            try with_reducible rfl
          simp only [Act.put, List.setIfInBounds_toArray, List.set_cons_zero, List.set_cons_succ]
          refine wpAnyH_takeD (i := 2) (v := ?_) (some 150) rfl (by rfl) (by kernel_rfl) (by kernel_rfl) (by kernel_rfl) (fun _ _ _ h => h) (Or.inl ⟨by rfl, ?_⟩) (by assumption) ?_
          rotate_left
          · intro w hSw
            try dsimp only at hSw
            go_simp
            try with_reducible rfl
          simp only [Act.put, List.setIfInBounds_toArray, List.set_cons_zero, List.set_cons_succ]
          refine wpAnyH_takeD (i := 3) (v := ?_) (some 151) rfl (by rfl) (by kernel_rfl) (by kernel_rfl) (by kernel_rfl) (fun _ _ _ h => h) (Or.inl ⟨by rfl, ?_⟩) (by assumption) ?_
          rotate_left
          · intro w hSw
            try dsimp only at hSw
            go_simp
            try with_reducible rfl
          simp only [Act.put, List.setIfInBounds_toArray, List.set_cons_zero, List.set_cons_succ]
          refine wpAnyH_takeD (i := 4) (v := ?_) (some 152) rfl (by rfl) (by kernel_rfl) (by kernel_rfl) (by kernel_rfl) (fun _ _ _ h => h) (Or.inl ⟨by rfl, ?_⟩) (by assumption) ?_
          rotate_left
          · intro w hSw
            try dsimp only at hSw
            go_simp
            try with_reducible rfl
          simp only [Act.put, List.setIfInBounds_toArray, List.set_cons_zero, List.set_cons_succ]
          refine wpAnyH_takeD (i := 6) (v := ?_) (some 154) rfl (by rfl) (by kernel_rfl) (by kernel_rfl) (by kernel_rfl) (fun _ _ _ h => h) (Or.inl ⟨by rfl, ?_⟩) (by assumption) ?_
          rotate_left
          · intro w hSw
            try dsimp only at hSw
            go_simp
            try with_reducible rfl
          simp only [Act.put, List.setIfInBounds_toArray, List.set_cons_zero, List.set_cons_succ]
          refine wpAnyH_takeD (i := 7) (v := ?_) (some 155) rfl (by rfl) (by kernel_rfl) (by kernel_rfl) (by kernel_rfl) (fun _ _ _ h => h) (Or.inl ⟨by rfl, ?_⟩) (by assumption) ?_
          rotate_left
          · intro w hSw
            try dsimp only at hSw
            go_simp
            try with_reducible rfl
          simp only [Act.put, List.setIfInBounds_toArray, List.set_cons_zero, List.set_cons_succ]
          refine wpAnyH_takeD (i := 8) (v := ?_) (some 156) rfl (by rfl) (by kernel_rfl) (by kernel_rfl) (by kernel_rfl) (fun _ _ _ h => h) (Or.inl ⟨by rfl, ?_⟩) (by assumption) ?_
          rotate_left
          · intro w hSw
            try dsimp only at hSw
            go_simp
            try with_reducible rfl
          simp only [Act.put, List.setIfInBounds_toArray, List.set_cons_zero, List.set_cons_succ]
          refine wpAnyH_takeD (i := 9) (v := ?_) (some 157) rfl (by rfl) (by kernel_rfl) (by kernel_rfl) (by kernel_rfl) (fun _ _ _ h => h) (Or.inl ⟨by rfl, ?_⟩) (by assumption) ?_
          rotate_left
          · intro w hSw
            try dsimp only at hSw
            go_simp
            try with_reducible rfl
          simp only [Act.put, List.setIfInBounds_toArray, List.set_cons_zero, List.set_cons_succ]
          refine wpAnyH_takeD (i := 10) (v := ?_) (some 158) rfl (by rfl) (by kernel_rfl) (by kernel_rfl) (by kernel_rfl) (fun _ _ _ h => h) (Or.inl ⟨by rfl, ?_⟩) (by assumption) ?_
          rotate_left
          · intro w hSw
            try dsimp only at hSw
            go_simp
            try with_reducible rfl
          simp only [Act.put, List.setIfInBounds_toArray, List.set_cons_zero, List.set_cons_succ]
          refine wpAnyH_ready (rs := [5]) (by kernel_rfl) (by simp) ?_
          refine AllReadyH.cons rfl (fun K hK => ?_) AllReadyH.nil
          go_simp
          refine (hc1).mono ?_
          rintro e w3 ⟨sx, cx, rfl, h3⟩
          have hc2 := words07_call h3 3 rfl HW.out.i2 hhr HTD.out.2
          have HX : w3.cell? ⟨gl, i, none⟩ = some (.int .u64 hh) := (by obtain ⟨_, e9, c9, _⟩ := h3.item 6 rfl (o := i) (x := .int .u64 hh) HG.out; cases e9; exact c9)
          clear hc1
          refine hK.out _ _ HX (fun _ => ?_)
          clear hK K hHeld
          have hHeld := HX
          clear HX
          try simp only [Act.put, List.setIfInBounds_toArray, List.set_cons_zero, List.set_cons_succ]
          refine wpAnyH_ready (rs := [11]) (by kernel_rfl) (by simp) ?_
          refine AllReadyH.cons rfl (fun K hK => ?_) AllReadyH.nil
          go_simp
          refine (hc2).mono ?_
          rintro e w5 ⟨sy, cy, rfl, h5⟩
          have HX : w5.cell? ⟨gl, i, none⟩ = some (.int .u64 hh) := (by obtain ⟨_, e9, c9, _⟩ := h5.item 6 rfl (o := i) (x := .int .u64 hh) HG.out; cases e9; exact c9)
          have HE : Hid (AmEnd w b cb C1 b2 cb2 C2 S T S2 T2 (.slice (some ⟨gl, 0, none⟩) n cl) n hs w5 ∧ RowIs w5 (.slice sx l.length cx) l ∧ RowIs w5 (.slice sy l.length cy) l) := Lib.hid ⟨Sep.left (Ps := [_, _, _, _, _, _, _]) (Qs := [_, _]) h5, (h5.rowIs 7 rfl), (h5.rowIs 8 rfl)⟩
          clear h3 h5
          refine hK.out _ _ HX (fun _ => ?_)
          clear hK K hHeld
          have hHeld := HX
          clear HX
          try simp only [Act.put, List.setIfInBounds_toArray, List.set_cons_zero, List.set_cons_succ]
          refine wpAnyH_takeD (i := 12) (v := ?_) (some 22) rfl (by rfl) (by kernel_rfl) (by kernel_rfl) (by kernel_rfl) (fun _ _ _ h => h) (Or.inl ⟨by rfl, ?_⟩) (by assumption) ?_
          rotate_left
          · intro w hSw
            try dsimp only at hSw
            go_simp
            try with_reducible rfl
          simp only [Act.put, List.setIfInBounds_toArray, List.set_cons_zero, List.set_cons_succ]
          refine wpAnyH_takeD (i := 13) (v := ?_) (some 23) rfl (by rfl) (by kernel_rfl) (by kernel_rfl) (by kernel_rfl) (fun _ _ _ h => h) (Or.inl ⟨by rfl, ?_⟩) (by assumption) ?_
          rotate_left
          · intro w hSw
            try dsimp only at hSw
            go_simp
            try with_reducible rfl
          simp only [Act.put, List.setIfInBounds_toArray, List.set_cons_zero, List.set_cons_succ]
          refine wpAnyH_done (by kernel_rfl) ?_ _
          clear hHeld
          go_wp2_with fail
          go_loopw [24] (fun iv wr => ∃ k : Nat, iv = .int .i64 k ∧ k ≤ l.length ∧ Mod No w5 wr) (fun iv _ => l.length - (RowKit.intOf iv).toNat)
          case atStart => exact ⟨0, rfl, Nat.zero_le _, Mod.refl _ _⟩
          case round =>
            obtain ⟨k, rfl, hk, hm⟩ := hrel
            by_cases hkl : k < l.length
            · obtain ⟨v, hv⟩ : ∃ v, l[k]? = some v := ⟨_, List.getElem?_eq_getElem hkl⟩
              obtain ⟨_, _, ex, cxs⟩ := (HE.out.2.1.mod hm)
              obtain ⟨_, _, ey, cys⟩ := (HE.out.2.2.mod hm)
              obtain ⟨gx, hgx, cx1⟩ := cxs k v hv
              obtain ⟨gy, hgy, cy1⟩ := cys k v hv
              simp only [Value.slice.injEq, true_and] at ex ey
              obtain ⟨rfl, -⟩ := ex
              obtain ⟨rfl, -⟩ := ey
              subst hgx hgy
              obtain ⟨L, hL⟩ : ∃ L, l.length = L := ⟨_, rfl⟩
              rw [hL] at hkl hll hk ⊢
              have dL : ((L : Int) != (L : Int)) = false := bneF rfl
              have dV : (v != v) = false := bneF rfl
              have hki : (k : Int) < (L : Int) := by omega
              have HM2 := Lib.hid hm
              have HK2 : Hid (k + 1 ≤ L ∧ L - (k + 1) < L - k) := by exact Lib.hid ⟨by omega, by omega⟩
              clear hv cxs cys hm hL hkl
              go_wp2_with fail
              refine wp_region_quiet_lit (by kernel_rfl) (by kernel_rfl) ?_
              repeat (go_big_quiet_step (fail))
              refine wpQuiet_nil ?_
              intro wq hwq
              obtain ⟨nq, hwq⟩ := hwq
              have hq := Mod.of_drewN hwq
              clear hwq nq
              have HM3 := Lib.hid (HM2.out.trans' hq)
              clear hq
              go_wp2_with fail
              go_roundw
              case rel => exact ⟨k + 1, by go_num, HK2.out.1, HM3.out⟩
              case measure => have := HK2.out.2; simp [RowKit.intOf]; omega
            · obtain ⟨L, hL⟩ : ∃ L, l.length = L := ⟨_, rfl⟩
              rw [hL] at hkl hk hll ⊢
              have dI : decide ((k : Int) < (L : Int)) = false := ltF (by omega)
              have dI2 : decide (k < L) = false := decide_eq_false hkl
              have HE2 : Hid (AmEnd w b cb C1 b2 cb2 C2 S T S2 T2 (.slice (some ⟨gl, 0, none⟩) n cl) n hs wr) := Lib.hid (Sep.more HE.out.1 hm)
              clear hm hkl hL hk HE
              go_wp2_with fail
              go_roundw
              case rel => exact ⟨i + 1, by go_num, HK1.out.1, HE2.out⟩
              case measure => have := HK1.out.2; simp [RowKit.intOf]; omega
        · have dI : decide ((i : Int) < (n : Int)) = false := ltF (by omega)
          have dI2 : decide (i < n) = false := decide_eq_false hin
          have hw1 := stwords_call h 0 rfl
          rw [HP.out] at hw1
          clear h hin hi
          go_wp2_with fail
          refine hw1.mono ?_
          rintro e w6 ⟨rfl, h6⟩
          have hau := staudit_call h6 0 rfl HW.out.i1
          clear hw1 h6
          go_wp2_with fail
          refine hau.mono ?_
          rintro e w7 ⟨rfl, h7⟩
          have HM := Lib.hid h7.mod
          clear hau h7
          go_wp2_with fail
          have ha := awake07_call w7 (HT.out.mod HM.out)
          go_wp2_with fail
          refine ha.mono ?_
          rintro e w9 ⟨rfl, hm9⟩
          have H9 := Lib.hid (HM.out.trans' hm9)
          clear ha hm9
          go_wp2
          go_ret
          exact ⟨rfl, H9.out.below _ (Nat.le_refl _) (fun _ _ x => x)⟩

theorem compactAmid_walk (sa : Option Addr) (len cap : Nat) (z : List (List Int)) (sb : Option Addr) (len2 cap2 : Nat) (z2 : List (List Int)) (w : World) (R : Recs w sa len [some .i64, some .i64, some .i64, some .u64] z) (R2 : Recs w sb len2 [some .i64] z2) (hT : Tab64 w) :
    Calls Tryz.prog 6 #[.slice sa len cap, .slice sb len2 cap2] w fun e w' => e = .returned (.bool true) ∧ Below w.heap.size w w' := by
  by_cases hall : len ≤ 60 ∧ len2 ≤ 60
  · exact amid_in w R hall.1 R2 hall.2 hT
  · have HM := Lib.hid (Mod.refl No w)
    have HT := Lib.hid hT
    clear hT R R2
    by_cases h1 : 60 < len
    · have d1 : decide ((60 : Int) < (len : Int)) = true := ltT (by omega)
      clear hall h1
      go_enter Tryz.func6, Tryz.ntmps6
      have ha := awake07_call w (HT.out.mod HM.out)
      go_wp2_with fail
      refine ha.mono ?_
      rintro e w9 ⟨rfl, hm9⟩
      have H9 := Lib.hid (HM.out.trans' hm9)
      clear ha hm9
      go_wp2
      go_ret
      exact ⟨rfl, H9.out.below _ (Nat.le_refl _) (fun _ _ x => x)⟩
    have d1 : decide ((60 : Int) < (len : Int)) = false := ltF (by omega)
    have d5 : decide ((60 : Int) < (len2 : Int)) = true := ltT (by omega)
    clear hall h1
    go_enter Tryz.func6, Tryz.ntmps6
    have ha := awake07_call w (HT.out.mod HM.out)
    go_wp2_with fail
    refine ha.mono ?_
    rintro e w9 ⟨rfl, hm9⟩
    have H9 := Lib.hid (HM.out.trans' hm9)
    clear ha hm9
    go_wp2
    go_ret
    exact ⟨rfl, H9.out.below _ (Nat.le_refl _) (fun _ _ x => x)⟩
end Go.Proofs.YtmdnofojecncgaaGreatDoor
