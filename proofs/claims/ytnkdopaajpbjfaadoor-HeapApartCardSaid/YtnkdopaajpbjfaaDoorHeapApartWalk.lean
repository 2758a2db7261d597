/- HeapApart, walked. Condition: the table of math/bits holds what its initialiser lays. -/
import Derived.Test.YtnkdopaajpbjfaaDoorHeapApartSpec
import Derived.Test.YtnkdopaajpbjfaaDoorFlat
import Derived.Test.YtnkdopaajpbjfaaDoorSrc
import Derived.Deep.RegionHeld3
import Derived.Deep.DeepCutAuto
import Derived.Deep.CutBlock
set_option linter.unusedVariables false
set_option linter.unusedSimpArgs false
namespace Go.Proofs.YtnkdopaajpbjfaaDoor
open Go Go.RowKit

def kcell (k : KEnt) : List Value := [.int .i64 (k.a : Int), .int .i64 (k.n : Int), .int .u64 (k.v : Int)]
theorem kcell_len (k : KEnt) : (kcell k).length = 3 := rfl
abbrev krow (K : List KEnt) : List Value := K.flatMap kcell
theorem krow_one (K : List KEnt) : ∀ u ∈ krow K, u.oneCell' = true := fun u hu => by
  obtain ⟨k, _, h⟩ := List.mem_flatMap.1 hu
  unfold kcell at h
  simp only [List.mem_cons, List.not_mem_nil, or_false] at h
  rcases h with rfl | rfl | rfl <;> rfl
theorem infoKept : (Tryd.prog.info? 44).map (fun i => (i.zero, i.size, i.bytes)) = some (some (.agg #[.int .i64 0, .int .i64 0, .int .u64 0]), 3, 24) := by kernel_rfl

def ApRel (w : World) (s b : Nat) (l : Value) (j : Nat) (wr : World) : Prop := ∃ (S : Slb) (H : List Ent) (K : List KEnt), Slb.Kept S H K ∧ K.length ≤ j ∧ Sep No w wr [slabR s S, hpAt b s, rowAt 44 3 l K.length (krow K)]

set_option maxRecDepth 100000 in
set_option maxHeartbeats 4000000 in
theorem apart_in (q : Int) (s1 : Option Addr) (len1 cap1 : Nat) (z1 : List (List Int)) (w : World) (hq : 0 ≤ q ∧ q ≤ 4000) (R : Recs w s1 len1 [some .i64, some .i64] z1) (hlen : len1 ≤ 60) (hT : Tab64 w) :
    Calls Tryd.prog 4 #[.int .i64 q, .slice s1 len1 cap1] w fun e w' => e = .returned (.bool true) ∧ Below w.heap.size w w' := by
  have d1 : decide (q < 0) = false := ltF (by omega)
  have d2 : decide (4000 < q) = false := ltF (by omega)
  have d3 : decide ((60 : Int) < (len1 : Int)) = false := ltF (by omega)
  have HR := Lib.hid R
  have HT := Lib.hid hT
  obtain ⟨i0, hi0, hz0, hz1, hz2⟩ := info_parts infoKept
  have HI := Lib.hid (And.intro hi0 (And.intro hz0 (And.intro hz1 hz2)))
  clear R hT hi0 hz0 hz1 hz2
  go_enter Tryd.func4, Tryd.ntmps4
  go_wp2_with fail
  refine (made_call (Sep.nil w) q (by omega) (by omega)).mono ?_
  rintro e w1 ⟨s, b, rfl, g1⟩
  have hst := Lib.hid (show ApRel w s b (.slice none 0 0) 0 w1 from ⟨_, [], [], Slb.Kept.empty (by omega) (by omega), Nat.le_refl _, g1.pushNil _ _⟩)
  clear g1 d1 d2 d3
  go_wp2_with fail
  go_loopw [8, 9] (fun l i wr => ∃ j : Nat, i = .int .i64 j ∧ j ≤ len1 ∧ ApRel w s b l j wr) (fun _ i _ => len1 - (RowKit.intOf i).toNat)
  case atStart => exact ⟨0, rfl, Nat.zero_le _, hst.out⟩
  case round =>
    obtain ⟨j, rfl, hj, S, H, K, hK, hKj, h⟩ := hrel
    clear hst
    obtain ⟨sl, cl, rfl⟩ := h.form 2 rfl
    obtain ⟨L, hL⟩ : ∃ x, K.length = x := ⟨_, rfl⟩
    rw [hL] at h hKj ⊢
    have HLn := Lib.hid hL
    clear hL
    by_cases hlt : j < len1
    · obtain ⟨bb, off, rfl, hb, hc⟩ := HR.out.cells (by omega)
      have hzj : z1[j]? = some (z1[j]'(by rw [HR.out.count]; exact hlt)) := List.getElem?_eq_getElem _
      obtain ⟨hrl, hro⟩ := HR.out.ok _ (List.mem_of_getElem? hzj)
      generalize z1[j]'(by rw [HR.out.count]; exact hlt) = r at *
      match r, hrl with
      | [d, n], _ =>
      have c0 := h.old (hc j _ hzj 0 _ d rfl rfl)
      have c1 := h.old (hc j _ hzj 1 _ n rfl rfl)
      have hd := bounds_i64 (hro 0 _ d rfl rfl)
      have hn := bounds_i64 (hro 1 _ n rfl rfl)
      simp only [List.length_cons, List.length_nil, Nat.add_zero, Nat.zero_add, Nat.reduceAdd, fv] at c0 c1
      have hbw : bb < wr.heap.size := by have := h.size; omega
      clear hc hzj hro hb
      have HH := Lib.hid (h.pushCells #[.int .i64 d, .int .i64 n] 38)
      have HK := Lib.hid hK
      clear h hK
      go_upto_if 55 with fail
      go_cut [8, 10] (fun l _ wx => ApRel w s b l (j + 1) wx)
      case first =>
        as_aux_lemma =>
          obtain ⟨ob, hob⟩ : ∃ ob, wr.heap.size = ob := ⟨_, rfl⟩
          rw [hob] at HH ⊢
          have HH : Hid (Sep No w (wr.alloc (.cells #[.int .i64 d, .int .i64 n] 38)) [slabR s S, hpAt b s, rowAt 44 3 (.slice sl L cl) L (krow K), cellsAt ob #[.int .i64 d, .int .i64 n] 38]) := HH
          obtain ⟨W1, hW1⟩ : ∃ x, wr.alloc (.cells #[.int .i64 d, .int .i64 n] 38) = x := ⟨_, rfl⟩
          rw [hW1] at HH ⊢
          have k0 := (HH.out.cell 3 rfl 0 (v := .int .i64 d) rfl).1
          have k1 := (HH.out.cell 3 rfl 1 (v := .int .i64 n) rfl).1
          clear hW1 c0 c1 hob hbw
          by_cases hd1 : d = 1
          · subst hd1
            by_cases hbad : n < 1 ∨ 4000 < n
            · have hal := HH.out.hAlloc 1 0 (by omega) rfl rfl (HT.out.mod HH.out.mod) n (Slb.halloc_bad' hbad)
              have H3 := Lib.hid hal
              clear hal hbad
              have hal := H3.out
              go_wp2_with fail
              refine hal.mono ?_
              rintro e w2 ⟨rfl, h2⟩
              have h2 : Sep No w w2 [slabR s S, hpAt b s, rowAt 44 3 (.slice sl L cl) L (krow K), cellsAt ob #[.int .i64 1, .int .i64 n] 38] := h2
              have H2 : Hid (ApRel w s b (.slice sl L cl) (j + 1) w2) := ⟨S, H, K, HK.out, by rw [HLn.out]; omega, by rw [HLn.out]; exact Sep.left (Ps := [_, _, _]) h2⟩
              clear hal h2 H3 k0 k1
              go_wp2
              go_roundw
              case rel => exact ⟨j + 1, by go_num, by omega, H2.out⟩
              case measure => simp [RowKit.intOf]; omega
            · rcases HK.out.rep.halloc (n := n) (by omega) (by omega) with ⟨er, _, _⟩ | ⟨a, S', H', e1, A, W⟩
              · have hal := HH.out.hAlloc 1 0 (by omega) rfl rfl (HT.out.mod HH.out.mod) n er
                clear er
                have H3 := Lib.hid hal
                clear hal hbad
                have hal := H3.out
                go_wp2_with fail
                refine hal.mono ?_
                rintro e w2 ⟨rfl, h2⟩
                have h2 : Sep No w w2 [slabR s S, hpAt b s, rowAt 44 3 (.slice sl L cl) L (krow K), cellsAt ob #[.int .i64 1, .int .i64 n] 38] := h2
                have H2 : Hid (ApRel w s b (.slice sl L cl) (j + 1) w2) := ⟨S, H, K, HK.out, by rw [HLn.out]; omega, by rw [HLn.out]; exact Sep.left (Ps := [_, _, _]) h2⟩
                clear hal h2 H3 k0 k1
                go_wp2
                go_roundw
                case rel => exact ⟨j + 1, by go_num, by omega, H2.out⟩
                case measure => simp [RowKit.intOf]; omega
              · have hal := HH.out.hAlloc 1 0 (by omega) rfl rfl (HT.out.mod HH.out.mod) n e1
                obtain ⟨m, rfl⟩ : ∃ m : Nat, n = m := ⟨n.toNat, by omega⟩
                have hle := Slb.le_roomOf (n := (m : Int)) (by omega)
                have hF := HK.out.alloc A m (j + 1)
                obtain ⟨r, hr⟩ : ∃ x, Slb.roomOf (m : Int) = x := ⟨_, rfl⟩
                rw [hr] at hle hF A
                have har := A.rep.blk_range (b := (a, r)) (A.perm.mem_iff.2 (by simp))
                dsimp only at har
                have HFl := Lib.hid hF
                have ha1 : (a : Int) ≤ 67108864 := by omega
                have hm1 : 1 ≤ m ∧ m ≤ 4000 := by omega
                have hmr : m ≤ r := by omega
                clear A W e1 hF har hr hle hbad
                go_wp2_with fail
                refine hal.mono ?_
                rintro e w2 ⟨rfl, h2⟩
                have H2 : Hid (Sep No w w2 [slabR s S', hpAt b s, rowAt 44 3 (.slice sl L cl) L (krow K), cellsAt ob #[.int .i64 1, .int .i64 (m : Nat)] 38]) := h2
                clear hal h2 k0 k1
                go_wp2_with fail
                go_loopw [13] (fun kv wx => ∃ (t : Nat) (S2 : Slb) (H2 : List Ent), kv = .int .i64 t ∧ t ≤ m ∧ Slb.Filling S2 H2 K a r m (j + 1) t ∧ Sep No w wx [slabR s S2, hpAt b s, rowAt 44 3 (.slice sl L cl) L (krow K), cellsAt ob #[.int .i64 1, .int .i64 (m : Nat)] 38]) (fun kv _ => m - (RowKit.intOf kv).toNat)
                case atStart => exact ⟨0, S', H', rfl, Nat.zero_le _, HFl.out, H2.out⟩
                case round =>
                  obtain ⟨t, S2, H2', rfl, ht, hF, h⟩ := hrel
                  have k1 := (h.cell 3 rfl 1 (v := .int .i64 (m : Nat)) rfl).1
                  by_cases hlt3 : t < m
                  · obtain ⟨hrd, S3, hwr, hF3⟩ := hF.step (t := t) (by omega) (by omega)
                    have hc := h.sRead 0 rfl ((a : Int) + (t : Int)) hrd
                    have hw := h.sWrite 0 rfl ((a : Int) + (t : Int)) ((j + 1 : Nat) : Int) (by omega) (by omega) hwr
                    have HF3 := Lib.hid hF3
                    have hj1 : ((j + 1 : Nat) : Int) = (j : Int) + 1 := by omega
                    rw [hj1] at hw
                    have ewj : IntKind.u64.wrap ((j : Int) + 1) = (j : Int) + 1 := by rw [IntKind.wrap_u64]; omega
                    clear h hF hF3 hrd hwr
                    go_wp2_with fail
                    refine hc.mono ?_
                    rintro e w4 ⟨rfl, rfl⟩
                    clear hc
                    go_wp2_with fail
                    refine hw.mono ?_
                    rintro e w5 ⟨rfl, h5⟩
                    have H5 := Lib.hid h5
                    clear hw h5 k1
                    go_wp2
                    go_roundw
                    case rel => exact ⟨t + 1, S3, H2', by go_num, by omega, HF3.out, H5.out⟩
                    case measure => simp [RowKit.intOf]; omega
                  · obtain rfl : t = m := by omega
                    have hKn := hF.kept (by omega) hmr (by omega) (by omega)
                    have HKn := Lib.hid hKn
                    obtain ⟨hi0, hz0, hz1, hz2⟩ := HI.out
                    have hE := h.alloc (.cells #[.int .i64 (a : Int), .int .i64 (t : Int), .int .u64 ((j : Int) + 1)] 44)
                    have hsrc := srcOf_block (w := wr.alloc (.cells #[.int .i64 (a : Int), .int .i64 (t : Int), .int .u64 ((j : Int) + 1)] 44)) (size := 3) (heap_alloc_new wr _) rfl (by simp [Value.oneCell']) 1
                    have ewj : IntKind.u64.wrap ((j : Int) + 1) = (j : Int) + 1 := by rw [IntKind.wrap_u64]; omega
                    clear hF hKn hlt3 h
                    go_wp2_with (at_builtin; refine wpList_append_src hE 2 rfl (by rfl) _ _ 36 rfl Tryd.underlying36 hi0 hz0 hz1 hz2 rfl (by decide) (by rfl) _ (by rfl) hsrc (by unfold maxLen; omega) (by omega) ?_)
                    intro sb cb w6 h6
                    have H6 : Hid (ApRel w s b (.slice sb (L + 1) cb) (j + 1) w6) := by
                      refine ⟨S2, H2', K ++ [⟨a, r, t, j + 1⟩], HKn.out, by rw [List.length_append, HLn.out]; simp; omega, ?_⟩
                      have h7 : Sep No w w6 [slabR s S2, hpAt b s, rowAt 44 3 (.slice sb (L + 1) cb) (L + 1) (krow K ++ [.int .i64 (a : Int), .int .i64 (t : Int), .int .u64 ((j : Int) + 1)])] := Sep.left (Ps := [_, _, _]) h6
                      rw [List.length_append, HLn.out]
                      have e : krow (K ++ [⟨a, r, t, j + 1⟩]) = krow K ++ [.int .i64 (a : Int), .int .i64 (t : Int), .int .u64 ((j : Int) + 1)] := by
                        unfold krow
                        rw [List.flatMap_append]
                        simp [kcell]
                      rw [e]
                      exact h7
                    clear hE h6 hsrc hi0 hz0 hz1 hz2 k1
                    go_wp2_with fail
                    go_meet
                    case rel => exact H6.out
          · have d1' : (d == 1) = false := beqF hd1
            by_cases hL0 : L = 0
            · subst hL0
              have H2 : Hid (ApRel w s b (.slice sl 0 cl) (j + 1) W1) := ⟨S, H, K, HK.out, by rw [HLn.out]; omega, by rw [HLn.out]; exact Sep.left (Ps := [_, _, _]) HH.out⟩
              clear hd1
              go_wp2_with fail
              go_meet
              case rel => exact H2.out
            · have hm : -(L : Int) < n.tmod (L : Int) ∧ n.tmod (L : Int) < (L : Int) := by
                have h1 := Int.tmod_lt_of_pos n (show (0 : Int) < (L : Int) by omega)
                have h2 := Int.tmod_lt_of_pos (-n) (show (0 : Int) < (L : Int) by omega)
                rw [Int.neg_tmod] at h2
                omega
              have hz : ((L : Int) == 0) = false := beqF (by omega)
              have dL : decide ((0 : Int) < (L : Int)) = true := ltT (by omega)
              obtain ⟨m, hme⟩ : ∃ m, n.tmod (L : Int) = m := ⟨_, rfl⟩
              have hms : n.tmod (L : Int) = m := hme
              rw [hme] at hm
              clear hd1 hL0 hme
              go_upto_if 115 with fail
              go_cut [16] (fun xv wx => ∃ x : Nat, xv = .int .i64 x ∧ x < L ∧ wx = W1)
              case first =>
                as_aux_lemma =>
                  clear k0 k1 hz dL hms
                  rcases Int.lt_or_le m 0 with hneg | hpos
                  · obtain ⟨k, hk⟩ := Int.eq_ofNat_of_zero_le (show 0 ≤ m + L by omega)
                    have hL1 : L ≤ 61 := by omega
                    go_wp2_with fail
                    go_meet
                    case rel => exact ⟨k, by go_num, by omega, rfl⟩
                  · obtain ⟨k, rfl⟩ := Int.eq_ofNat_of_zero_le hpos
                    go_wp2_with fail
                    go_meet
                    case rel => exact ⟨k, rfl, by omega, rfl⟩
              case rest =>
                as_aux_lemma =>
                  obtain ⟨x, rfl, hx, rfl⟩ := hcut
                  clear k1 hz dL hms hm
                  have hKL := HLn.out
                  have hkx : K[x]? = some (K[x]'(by omega)) := List.getElem?_eq_getElem _
                  obtain ⟨kk, hkk⟩ : ∃ y, K[x]'(by omega) = y := ⟨_, rfl⟩
                  rw [hkk] at hkx
                  have hbd := HK.out.bound (List.mem_of_getElem? hkx)
                  obtain ⟨g, rfl, e0, _⟩ := HH.out.item 2 rfl (o := x * 3) (x := .int .i64 (kk.a : Int)) (flat_get kcell_len K x 0 kk hkx (by omega))
                  have HX := Lib.hid hkx
                  obtain ⟨hi0, hz0, hz1, hz2⟩ := HI.out
                  have hcap := rowCap (HH.out.row 2 rfl)
                  have hL1 : L ≤ 61 := by omega
                  have hxc : x ≤ cl := by omega
                  have ewx : IntKind.i64.wrap ((x : Int) + 1) = ((x + 1 : Nat) : Int) := by rw [IntKind.wrap_i64]; omega
                  have hx1 : 0 ≤ (x : Int) + 1 := by omega
                  have hx2 : (x : Int) + 1 ≤ (L : Int) := by omega
                  have hx3 : ((x : Int) + 1).toNat = x + 1 := by omega
                  by_cases hd2 : d = 2
                  · subst hd2
                    obtain ⟨S', H', e1, hK2⟩ := HK.out.free hkx
                    have hf := hfree_call HH.out 1 0 (by omega) rfl rfl (kk.a : Int) (by omega) (by omega) e1
                    have HK2 := Lib.hid hK2
                    obtain ⟨a, ha⟩ : ∃ y, kk.a = y := ⟨_, rfl⟩
                    rw [ha] at e0 hf hbd
                    clear hK2 e1 hkx hkk ha hKL
                    go_wp2_with fail
                    refine hf.mono ?_
                    rintro e w2 ⟨rfl, h2⟩
                    have h3 : Sep No w w2 [slabR s S', hpAt b s, rowAt 44 3 (.slice (some ⟨g, 0, none⟩) L cl) L (krow K)] := Sep.left (Ps := [_, _, _]) h2
                    have hE : Sep No w (w2.drew.alloc (.cells #[] 44)) [slabR s S', hpAt b s, rowAt 44 3 (.slice (some ⟨g, 0, none⟩) L cl) L (krow K), rowAt 44 3 (.slice (some ⟨w2.drew.heap.size, 0, none⟩) 0 0) 0 []] := h3.drew.pushEmpty _ _
                    clear hf h2 h3 e0 k0
                    go_wp2_with fail
                    refine wp_region_held_drew (S := fun _ => True) (by kernel_rfl) trivial (fun hHeld => ?_)
                    refine wpAnyH_takeD (i := 1) (v := ?_) (some 132) rfl (by rfl) (by kernel_rfl) (by kernel_rfl) (by kernel_rfl) (fun _ _ _ h => h) (Or.inl ⟨by rfl, ?_⟩) (by assumption) ?_
                    rotate_left
                    · intro w hSw
                      try dsimp only at hSw
                      go_simp
                      try with_reducible rfl
                    simp only [Act.put, List.setIfInBounds_toArray, List.set_cons_zero, List.set_cons_succ]
                    refine wpAnyH_takeD (i := 2) (v := ?_) (some 133) rfl (by rfl) (by kernel_rfl) (by kernel_rfl) (by kernel_rfl) (fun _ _ _ h => h) (Or.inl ⟨by rfl, ?_⟩) (by assumption) ?_
                    rotate_left
                    · intro w hSw
                      try dsimp only at hSw
                      go_simp
                      try with_reducible rfl
                    simp only [Act.put, List.setIfInBounds_toArray, List.set_cons_zero, List.set_cons_succ]
                    refine wpAnyH_takeD (i := 3) (v := ?_) (some 134) rfl (by rfl) (by kernel_rfl) (by kernel_rfl) (by kernel_rfl) (fun _ _ _ h => h) (Or.inl ⟨by rfl, ?_⟩) (by assumption) ?_
                    rotate_left
                    · intro w hSw
                      try dsimp only at hSw
                      go_simp
                      try with_reducible rfl
                    simp only [Act.put, List.setIfInBounds_toArray, List.set_cons_zero, List.set_cons_succ]
                    refine wpAnyH_takeD (i := 5) (v := ?_) (some 136) rfl (by rfl) (by kernel_rfl) (by kernel_rfl) (by kernel_rfl) (fun _ _ _ h => h) (Or.inl ⟨by rfl, ?_⟩) (by assumption) ?_
                    rotate_left
                    · intro w hSw
                      try dsimp only at hSw
                      go_simp
                      try with_reducible rfl
                    simp only [Act.put, List.setIfInBounds_toArray, List.set_cons_zero, List.set_cons_succ]
                    refine wpAnyH_takeD (i := 6) (v := ?_) (some 137) rfl (by rfl) (by kernel_rfl) (by kernel_rfl) (by kernel_rfl) (fun _ _ _ h => h) (Or.inl ⟨by rfl, ?_⟩) (by assumption) ?_
                    rotate_left
                    · intro w hSw
                      try dsimp only at hSw
                      go_simp
                      try with_reducible rfl
                    simp only [Act.put, List.setIfInBounds_toArray, List.set_cons_zero, List.set_cons_succ]
                    refine wpAnyH_takeD (i := 7) (v := ?_) (some 138) rfl (by rfl) (by kernel_rfl) (by kernel_rfl) (by kernel_rfl) (fun _ _ _ h => h) (Or.inl ⟨by rfl, ?_⟩) (by assumption) ?_
                    rotate_left
                    · intro w hSw
                      try dsimp only at hSw
                      go_simp
                      try with_reducible rfl
                    simp only [Act.put, List.setIfInBounds_toArray, List.set_cons_zero, List.set_cons_succ]
                    refine wpAnyH_takeD (i := 8) (v := ?_) (some 139) rfl (by rfl) (by kernel_rfl) (by kernel_rfl) (by kernel_rfl) (fun _ _ _ h => h) (Or.inl ⟨by rfl, ?_⟩) (by assumption) ?_
                    rotate_left
                    · intro w hSw
                      try dsimp only at hSw
                      go_simp
                      try with_reducible rfl
                    simp only [Act.put, List.setIfInBounds_toArray, List.set_cons_zero, List.set_cons_succ]
                    refine wpAnyH_ready (rs := [0]) (by kernel_rfl) (by simp) ?_
                    refine AllReadyH.cons rfl (fun K0 hK => ?_) AllReadyH.nil
                    go_simp
                    refine hK.out _ _ trivial (fun _ => ?_)
                    clear hK K0
                    try simp only [Act.put, List.setIfInBounds_toArray, List.set_cons_zero, List.set_cons_succ]
                    have hsrc := srcHead (hE.row 2 rfl) (krow_one _) x cl (by omega)
                    refine wpAnyH_ready (rs := [4]) (by kernel_rfl) (by simp) ?_
                    refine AllReadyH.cons rfl (fun K0 hK => ?_) AllReadyH.nil
                    refine oper_append_src hE 3 rfl _ _ 36 (by rfl) Tryd.underlying36 hi0 hz0 hz1 hz2 rfl (by decide) (by rfl) _ (by rfl) hsrc (by unfold maxLen; omega) (by omega) ?_
                    try simp only [Nat.zero_add, List.nil_append]
                    intro sb cb w4 h4
                    refine hK.out _ _ trivial (fun _ => ?_)
                    clear hK K0 hsrc hE
                    try simp only [Act.put, List.setIfInBounds_toArray, List.set_cons_zero, List.set_cons_succ]
                    have h4 : Sep No w w4 [slabR s S', hpAt b s, rowAt 44 3 (.slice (some ⟨g, 0, none⟩) L cl) L (krow K), rowAt 44 3 (.slice sb x cb) x ((krow K).take (x * 3))] := h4
                    have hsrc := srcTail (h4.row 2 rfl) (krow_one _) (x + 1) (by omega)
                    refine wpAnyH_ready (rs := [9]) (by kernel_rfl) (by simp) ?_
                    refine AllReadyH.cons rfl (fun K0 hK => ?_) AllReadyH.nil
                    refine oper_append_src h4 3 rfl _ _ 36 (by rfl) Tryd.underlying36 hi0 hz0 hz1 hz2 rfl (by decide) (by rfl) _ (by rfl) hsrc (by unfold maxLen; omega) (by omega) ?_
                    intro sc cc w5 h5
                    have h5 : Sep No w w5 [slabR s S', hpAt b s, rowAt 44 3 (.slice (some ⟨g, 0, none⟩) L cl) L (krow K), rowAt 44 3 (.slice sc (x + (L - (x + 1))) cc) (x + (L - (x + 1))) ((krow K).take (x * 3) ++ (krow K).drop ((x + 1) * 3))] := h5
                    refine hK.out _ _ trivial (fun _ => ?_)
                    clear hK K0 hsrc h4
                    try simp only [Act.put, List.setIfInBounds_toArray, List.set_cons_zero, List.set_cons_succ]
                    have H6 : Hid (ApRel w s b (.slice sc (x + (L - (x + 1))) cc) (j + 1) w5) := by
                      have hlen : (K.take x ++ K.drop (x + 1)).length = x + (L - (x + 1)) := by
                        rw [List.length_append, List.length_take, List.length_drop, HLn.out]
                        omega
                      have hrow : krow (K.take x ++ K.drop (x + 1)) = (krow K).take (x * 3) ++ (krow K).drop ((x + 1) * 3) := by
                        unfold krow
                        rw [List.flatMap_append, flat_take kcell_len K x (by rw [HLn.out]; omega), flat_drop kcell_len K (x + 1) (by rw [HLn.out]; omega)]
                      refine ⟨S', H', _, HK2.out, by rw [hlen]; omega, ?_⟩
                      rw [hlen, hrow]
                      exact h5.pick (fun i => if i = 2 then 3 else i) (fun i hi => by match i, hi with | 0, _ => rfl | 1, _ => rfl | 2, _ => rfl) (fun i j hi hj hij => by
                        simp only [List.length_cons, List.length_nil] at hi hj
                        split <;> split <;> omega)
                    clear h5 hi0 hz0 hz1 hz2
                    refine wpAnyH_ready (rs := [10]) (by kernel_rfl) (by simp) ?_
                    refine AllReadyH.cons rfl (fun K0 hK => ?_) AllReadyH.nil
                    go_simp
                    refine hK.out _ _ trivial (fun _ => ?_)
                    clear hK K0
                    try simp only [Act.put, List.setIfInBounds_toArray, List.set_cons_zero, List.set_cons_succ]
                    refine wpAnyH_done (by kernel_rfl) ?_ _
                    go_wp2_with fail
                    all_goals
                      go_meet
                      case rel => exact H6.out
                  · have d2' : (d == 2) = false := beqF hd2
                    obtain ⟨tq, S', H', e1, hK2, hle⟩ := HK.out.slide hkx
                    have hs := HH.out.hSlideR 1 0 (by omega) rfl rfl (HT.out.mod HH.out.mod) HK.out.rep (kk.a : Int) (by omega) (by omega) e1
                    have HK2 := Lib.hid hK2
                    have HST : Hid ((krow K).set (x * 3) (.int .i64 (tq : Nat)) = krow (K.set x { kk with a := tq })) := (flat_set kcell_len K x 0 kk { kk with a := tq } (.int .i64 (tq : Nat)) hkx (by omega) rfl).symm
                    obtain ⟨a, ha⟩ : ∃ y, kk.a = y := ⟨_, rfl⟩
                    rw [ha] at e0 hs hbd hle
                    have HG : Hid ((krow K)[x * 3]? = some (.int .i64 (a : Int))) := by rw [← ha]; exact flat_get kcell_len K x 0 kk hkx (by omega)
                    have dto : decide (a < tq) = false := decide_eq_false (by omega)
                    clear hK2 e1 hkx hkk ha hKL hd2 hle
                    go_wp2_with fail
                    refine hs.mono ?_
                    rintro e w2 ⟨rfl, h2⟩
                    have h3 : Sep No w w2 [slabR s S', hpAt b s, rowAt 44 3 (.slice (some ⟨g, 0, none⟩) L cl) L (krow K)] := Sep.left (Ps := [_, _, _]) h2
                    obtain ⟨g1, eg1, e2, _⟩ := h3.item 2 rfl HG.out
                    cases eg1
                    have hE : Sep No w (w2.alloc (.cells #[] 44)) [slabR s S', hpAt b s, rowAt 44 3 (.slice (some ⟨g, 0, none⟩) L cl) L (krow K), rowAt 44 3 (.slice (some ⟨w2.heap.size, 0, none⟩) 0 0) 0 []] := h3.pushEmpty _ _
                    have hsrc := srcOf_row (hE.row 2 rfl) (krow_one _)
                    clear hs h2 h3 e0 k0
                    go_wp2_with (at_builtin; refine wpList_append_src hE 3 rfl (by rfl) _ _ 36 rfl Tryd.underlying36 hi0 hz0 hz1 hz2 rfl (by decide) (by rfl) _ (by rfl) hsrc (by unfold maxLen; omega) (by omega) ?_)
                    try simp only [Nat.zero_add, List.nil_append]
                    intro sb cb w3 h4
                    have h4 : Sep No w w3 [slabR s S', hpAt b s, rowAt 44 3 (.slice (some ⟨g, 0, none⟩) L cl) L (krow K), rowAt 44 3 (.slice sb L cb) L (krow K)] := h4
                    obtain ⟨g2, rfl, e3, f3⟩ := h4.item 3 rfl HG.out
                    have f3 := f3 (x * 3)
                    have h5 := h4.setItem 3 rfl (x * 3) (.int .i64 (tq : Nat))
                    have H6 : Hid (ApRel w s b (.slice (some ⟨g2, 0, none⟩) L cb) (j + 1) (w3.setCell ⟨g2, x * 3, none⟩ (.int .i64 (tq : Nat)))) := by
                      refine ⟨S', H', _, HK2.out, by rw [List.length_set, HLn.out]; omega, ?_⟩
                      rw [List.length_set, HLn.out, ← HST.out]
                      exact h5.pick (fun i => if i = 2 then 3 else i) (fun i hi => by match i, hi with | 0, _ => rfl | 1, _ => rfl | 2, _ => rfl) (fun i j hi hj hij => by
                        simp only [List.length_cons, List.length_nil] at hi hj
                        split <;> split <;> omega)
                    clear hE hsrc h4 h5 hi0 hz0 hz1 hz2 e2
                    go_wp2_with fail
                    go_meet
                    case rel => exact H6.out
      case rest =>
        as_aux_lemma =>
          clear HH HK HLn c0 c1 hd hn
          obtain ⟨S, H, K, hK, hKj, h⟩ := hcut
          obtain ⟨sl, cl, rfl⟩ := h.form 2 rfl
          obtain ⟨L, hL⟩ : ∃ x, K.length = x := ⟨_, rfl⟩
          rw [hL] at h hKj ⊢
          have HLn := Lib.hid hL
          have hau := h.hAudit 1 0 rfl rfl
          rw [hK.rep.audit] at hau
          have HS := Lib.hid h
          have HK := Lib.hid hK
          have hLlen : S.live.length = L := by rw [hK.live, hL]
          clear h hK hL
          go_wp2_with fail
          refine hau.mono ?_
          rintro e w2 ⟨rfl, hm2⟩
          have h2 := HS.out.more hm2
          have hlv := Sep.hLive h2 1 0 rfl rfl
          clear hau hm2 HS h2
          go_wp2_with fail
          refine hlv.mono ?_
          rintro e w3 ⟨v, rfl, h3⟩
          obtain ⟨sa, ca, rfl⟩ := h3.form 3 rfl
          rw [hLlen]
          have h3 := Sep.left (Ps := [_, _, _]) h3
          have dL : ((L : Int) != (L : Int)) = false := bneF rfl
          have H3 : Hid (Sep No w w3 [slabR s S, hpAt b s, rowAt 44 3 (.slice sl L cl) L (krow K)]) := h3
          have HF : Hid (ApRel w s b (.slice sl L cl) (j + 1) w3) := ⟨S, H, K, HK.out, by rw [HLn.out]; exact hKj, by rw [HLn.out]; exact h3⟩
          have hLb : L ≤ 61 := by omega
          clear hlv h3 hLlen
          go_wp2_with fail
          go_loopw [19] (fun iv wx => ∃ k : Nat, iv = .int .i64 k ∧ k ≤ L ∧ wx = w3) (fun iv _ => L - (RowKit.intOf iv).toNat)
          case atStart => exact ⟨0, rfl, Nat.zero_le _, rfl⟩
          case round =>
            obtain ⟨k, rfl, hk, rfl⟩ := hrel
            by_cases hlt2 : k < L
            · have hkx : K[k]? = some (K[k]'(by rw [HLn.out]; exact hlt2)) := List.getElem?_eq_getElem _
              obtain ⟨kk, hkk⟩ : ∃ x, K[k]'(by rw [HLn.out]; exact hlt2) = x := ⟨_, rfl⟩
              rw [hkk] at hkx
              have hkm := List.mem_of_getElem? hkx
              have hbd := HK.out.bound hkm
              have hrd := fun i hi => HK.out.read (i := i) hkm hi
              obtain ⟨g, rfl, e0, _⟩ := H3.out.item 2 rfl (o := k * 3) (x := .int .i64 (kk.a : Int)) (flat_get kcell_len K k 0 kk hkx (by omega))
              obtain ⟨g1, eg1, e1, _⟩ := H3.out.item 2 rfl (o := k * 3 + 1) (x := .int .i64 (kk.n : Int)) (flat_get kcell_len K k 1 kk hkx (by omega))
              obtain ⟨g2, eg2, e2, _⟩ := H3.out.item 2 rfl (o := k * 3 + 2) (x := .int .u64 (kk.v : Int)) (flat_get kcell_len K k 2 kk hkx (by omega))
              cases eg1
              cases eg2
              have HRD := Lib.hid hrd
              obtain ⟨a, ha⟩ : ∃ x, kk.a = x := ⟨_, rfl⟩
              obtain ⟨m, hm⟩ : ∃ x, kk.n = x := ⟨_, rfl⟩
              obtain ⟨vv, hv⟩ : ∃ x, kk.v = x := ⟨_, rfl⟩
              rw [ha] at e0 hbd HRD
              rw [hm] at e1 hbd HRD
              rw [hv] at e2 hbd HRD
              obtain ⟨q1, q2, q3, q4⟩ := hbd
              clear hkx hkk hkm hrd ha hm hv
              go_wp2_with fail
              go_loopw [20] (fun iv wx => ∃ t : Nat, iv = .int .i64 t ∧ t ≤ m ∧ wx = wr) (fun iv _ => m - (RowKit.intOf iv).toNat)
              case atStart => exact ⟨0, rfl, Nat.zero_le _, rfl⟩
              case round =>
                obtain ⟨t, rfl, ht, rfl⟩ := hrel
                by_cases hlt3 : t < m
                · have hc := H3.out.sRead 0 rfl ((a : Int) + (t : Int)) (HRD.out t hlt3)
                  go_wp2_with fail
                  refine hc.mono ?_
                  rintro e w4 ⟨rfl, rfl⟩
                  clear hc
                  go_wp2
                  go_roundw
                  case rel => exact ⟨t + 1, by go_num, by omega, trivial⟩
                  case measure => simp [RowKit.intOf]; omega
                · obtain rfl : t = m := by omega
                  clear hlt3
                  go_wp2
                  go_roundw
                  case rel => exact ⟨k + 1, by go_num, by omega, trivial⟩
                  case measure => simp [RowKit.intOf]; omega
            · obtain rfl : k = L := by omega
              clear hlt2
              go_wp2
              go_roundw
              case rel => exact ⟨j + 1, by go_num, by omega, HF.out⟩
              case measure => simp [RowKit.intOf]; omega
    · obtain rfl : j = len1 := by omega
      have HM := Lib.hid h.mod
      clear h hK HR hlt
      have ha := awake_call wr (HT.out.mod HM.out)
      go_wp2_with fail
      refine ha.mono ?_
      rintro e w9 ⟨rfl, hm9⟩
      have H9 := Lib.hid (HM.out.trans' hm9)
      clear ha hm9
      go_wp2
      go_ret
      exact ⟨rfl, H9.out.below _ (Nat.le_refl _) (fun _ _ x => x)⟩

set_option maxRecDepth 100000 in
theorem heapApart_walk (a0 : Int) (s1 : Option Addr) (len1 cap1 : Nat) (z1 : List (List Int)) (w : World) (_w0 : (Lit.int .i64 a0).wf = true) (R : Recs w s1 len1 [some .i64, some .i64] z1) (hT : Tab64 w) :
    Calls Tryd.prog 4 #[.int .i64 a0, .slice s1 len1 cap1] w fun e w' => e = .returned (.bool true) ∧ Below w.heap.size w w' := by
  by_cases hall : (0 ≤ a0 ∧ a0 ≤ 4000) ∧ len1 ≤ 60
  · exact apart_in a0 s1 len1 cap1 z1 w hall.1 R hall.2 hT
  · have ha := awake_call w hT
    by_cases h1 : a0 < 0
    · have d1 : decide (a0 < 0) = true := ltT h1
      clear hT h1 hall
      clear R
      go_enter Tryd.func4, Tryd.ntmps4
      go_wp2_with fail
      refine ha.mono ?_
      rintro e w' ⟨rfl, hb⟩
      have H9 := Lib.hid hb
      clear ha hb
      go_wp2
      go_ret
      exact ⟨rfl, H9.out.below _ (Nat.le_refl _) (fun _ _ x => x)⟩
    have d1 : decide (a0 < 0) = false := ltF (by omega)
    by_cases h2 : 4000 < a0
    · have d2 : decide (4000 < a0) = true := ltT h2
      clear hT h1 h2 hall
      clear R
      go_enter Tryd.func4, Tryd.ntmps4
      go_wp2_with fail
      refine ha.mono ?_
      rintro e w' ⟨rfl, hb⟩
      have H9 := Lib.hid hb
      clear ha hb
      go_wp2
      go_ret
      exact ⟨rfl, H9.out.below _ (Nat.le_refl _) (fun _ _ x => x)⟩
    have d2 : decide (4000 < a0) = false := ltF (by omega)
    have d30 : decide ((60 : Int) < (len1 : Int)) = true := ltT (by omega)
    clear hT h1 h2 hall
    clear R
    go_enter Tryd.func4, Tryd.ntmps4
    go_wp2_with fail
    refine ha.mono ?_
    rintro e w' ⟨rfl, hb⟩
    have H9 := Lib.hid hb
    clear ha hb
    go_wp2
    go_ret
    exact ⟨rfl, H9.out.below _ (Nat.le_refl _) (fun _ _ x => x)⟩
end Go.Proofs.YtnkdopaajpbjfaaDoor
