/- CompactParts, walked. Condition: the table of math/bits holds what its initialiser lays. -/
import Derived.Test.YtmdnofojecncgaaGreatDoorFill
import Derived.Test.YtmdnofojecncgaaGreatDoorCompactC
import Derived.BigQuiet
set_option linter.unusedVariables false
set_option linter.unusedSimpArgs false
set_option maxRecDepth 100000
namespace Go.Proofs.YtmdnofojecncgaaGreatDoor
open Go Go.RowKit



def fst0 (q m : Int) : FSt := ⟨Slb.empty q, ⟨m, 4294967295, []⟩, [], [], 0⟩
theorem fst0_inv {q m : Int} (q0 : 0 ≤ q) (q1 : q ≤ 262144) (m1 : 1 ≤ m) (m2 : m ≤ 65536) : (fst0 q m).Inv := ⟨StInv.start q0 q1 m1 m2 (by omega) (by omega), Nat.le_refl _⟩
theorem Recs.fwords {w : World} {sa : Option Addr} {len : Nat} {z : List (List Int)} (R0 : Recs w sa len [some .i64, some .i64, some .i64, some .u64] z) : FWords z := fun k r hk => by
  obtain ⟨hrl, hro⟩ := R0.ok _ (List.mem_of_getElem? hk)
  match r, hrl with
  | [d, nn, kk, x], _ =>
    have := bounds_u64 (hro 3 _ x rfl rfl)
    show 0 ≤ x ∧ x < 18446744073709551616
    omega
theorem Ran.stAll_le {S S' : Slb} {T T' : HTbl} {H H' : List Ent} {R R' : List Rc} {k n : Nat} {d : Bool} (A : Ran S T H R k n d S' T' H' R') : (stAll S').length ≤ R.length := by
  have I := A.steps.inv
  rw [I.all_len, ← A.steps.moved.1]
  exact List.length_filter_le _ _

set_option maxRecDepth 100000 in
set_option maxHeartbeats 8000000 in
theorem parts_in (q m : Int) (one two : Nat) {sa : Option Addr} {len cap : Nat} {z : List (List Int)} (w : World) (hq : 0 ≤ q ∧ q ≤ 4000) (hm : 1 ≤ m ∧ m ≤ 1000) (R0 : Recs w sa len [some .i64, some .i64, some .i64, some .u64] z) (hlen : len ≤ 40) (h1 : one ≤ 100) (h2 : two ≤ 100) (hT : Tab64 w) :
    Calls Tryz.prog 3 #[.int .i64 q, .int .i64 m, .slice sa len cap, .int .i64 (one : Nat), .int .i64 (two : Nat)] w fun e w' => e = .returned (.bool true) ∧ Below w.heap.size w w' := by
  have d1 : decide (q < 0) = false := ltF (by omega)
  have d2 : decide (4000 < q) = false := ltF (by omega)
  have d3 : decide (m < 1) = false := ltF (by omega)
  have d4 : decide (1000 < m) = false := ltF (by omega)
  have d5 : decide ((40 : Int) < (len : Int)) = false := ltF (by omega)
  have d6 : decide ((one : Int) < 0) = false := ltF (by omega)
  have d7 : decide ((100 : Int) < (one : Int)) = false := ltF (by omega)
  have d8 : decide ((two : Int) < 0) = false := ltF (by omega)
  have d9 : decide ((100 : Int) < (two : Int)) = false := ltF (by omega)
  have HR := Lib.hid (And.intro R0 hlen)
  have HT := Lib.hid hT
  have hmd := made07_call q m (by omega) (by omega) (by omega) (by omega)
  have HMD := Lib.hid hmd
  have hI0 := fst0_inv (q := q) (m := m) (by omega) (by omega) (by omega) (by omega)
  have hIf := frun_inv hI0 R0.fwords len (by rw [R0.count]; exact Nat.le_refl _)
  have hln := frun_rlen hI0 R0.fwords len (by rw [R0.count]; exact Nat.le_refl _)
  have HI := Lib.hid (And.intro hI0 (And.intro hIf hln))
  have hc1 := hmd w
  clear R0 hT hI0 hIf hln hmd
  go_enter Tryz.func3, Tryz.ntmps3
  go_wp2_with fail
  refine hc1.mono ?_
  rintro e w1 ⟨b, cb, rfl, h1'⟩
  have h2 := h1'.pushCells (rsV q m 4294967295) 35
  obtain ⟨C1, hC1⟩ : ∃ C, w1.heap.size = C := ⟨_, rfl⟩
  obtain ⟨V1, hV1⟩ : ∃ W, w1.alloc (.cells (rsV q m 4294967295) 35) = W := ⟨_, rfl⟩
  rw [hC1, hV1] at h2
  have h2 : Sep No w V1 [stR b m 4294967295 (Slb.empty q) ⟨m, 4294967295, []⟩, cpR cb b, cellsAt C1 (rsV q m 4294967295) 35] := h2
  obtain ⟨j4, g4⟩ := h2.cell 2 rfl 4 (v := .slice none 0 0) rfl
  obtain ⟨j5, g5⟩ := h2.cell 2 rfl 5 (v := .slice none 0 0) rfl
  have h3 := (h2.set 2 rfl 4 (.slice none 0 0)).set 2 rfl 5 (.slice none 0 0)
  have h3 : Sep No w ((V1.setCell ⟨C1, 4, none⟩ (.slice none 0 0)).setCell ⟨C1, 5, none⟩ (.slice none 0 0)) [stR b m 4294967295 (Slb.empty q) ⟨m, 4294967295, []⟩, cpR cb b, cellsAt C1 (rsV q m 4294967295) 35] := h3
  generalize hW3 : ((V1.setCell ⟨C1, 4, none⟩ (.slice none 0 0)).setCell ⟨C1, 5, none⟩ (.slice none 0 0)) = W3 at h3
  have H3 := Lib.hid h3
  have hc2 := HMD.out W3
  clear h1' h2 h3 hc1
  go_wp2_with fail
  try rw [hW3]
  refine hc2.mono ?_
  rintro e w4 ⟨b2, cb2, rfl, h4⟩
  have h5 := H3.out.join h4
  have h6 := h5.pushCells (rsV q m 4294967295) 35
  clear j4 g4 j5 g5 hC1 hV1 hW3 hc2 H3 h4 h5
  obtain ⟨C2, hC2⟩ : ∃ C, w4.heap.size = C := ⟨_, rfl⟩
  obtain ⟨V2, hV2⟩ : ∃ W, w4.alloc (.cells (rsV q m 4294967295) 35) = W := ⟨_, rfl⟩
  rw [hC2, hV2] at h6
  have h6 : Sep No w V2 [stR b m 4294967295 (Slb.empty q) ⟨m, 4294967295, []⟩, cpR cb b, cellsAt C1 (rsV q m 4294967295) 35, stR b2 m 4294967295 (Slb.empty q) ⟨m, 4294967295, []⟩, cpR cb2 b2, cellsAt C2 (rsV q m 4294967295) 35] := h6
  obtain ⟨j4, g4⟩ := h6.cell 5 rfl 4 (v := .slice none 0 0) rfl
  obtain ⟨j5, g5⟩ := h6.cell 5 rfl 5 (v := .slice none 0 0) rfl
  have h7 := (h6.set 5 rfl 4 (.slice none 0 0)).set 5 rfl 5 (.slice none 0 0)
  generalize hW7 : ((V2.setCell ⟨C2, 4, none⟩ (.slice none 0 0)).setCell ⟨C2, 5, none⟩ (.slice none 0 0)) = W7 at h7
  have h7 : Sep No w W7 [stR b m 4294967295 (fst0 q m).S (fst0 q m).T, cpR cb b, cellsAt C1 (rsV q m 4294967295) 35, stR b2 m 4294967295 (fst0 q m).S (fst0 q m).T, cpR cb2 b2, cellsAt C2 (rsV q m 4294967295) 35] := h7
  have hf1 := fill_call (cap := cap) h7 0 rfl HI.out.1 rfl HT.out HR.out.1 (by have := HR.out.2; omega)
  have HI2 := Lib.hid HI.out.2.1.1
  clear h6 h7
  obtain ⟨sf, hsf⟩ : ∃ s, frun (fst0 q m) z len = s := ⟨_, rfl⟩
  rw [hsf] at hf1 HI HI2
  go_wp2_with fail
  try rw [hW7]
  refine hf1.mono ?_
  rintro e w8 ⟨sl, cl, rfl, h8⟩
  unfold FRel at h8
  have h8 : Sep No w w8 [stR b m 4294967295 sf.S sf.T, cpR cb b, cellsAt C1 (rsV q m 4294967295) 35, stR b2 m 4294967295 (fst0 q m).S (fst0 q m).T, cpR cb2 b2, cellsAt C2 (rsV q m 4294967295) 35] := Sep.left (Ps := [_, _, _, _, _, _]) h8
  have hf2 := fill_call (cap := cap) h8 3 rfl HI.out.1 rfl HT.out HR.out.1 (by have := HR.out.2; omega)
  rw [hsf] at hf2
  clear hf1 h8 j4 g4 j5 g5 hC2 hV2 hW7
  go_wp2_with fail
  refine hf2.mono ?_
  rintro e w9 ⟨sl2, cl2, rfl, h9⟩
  unfold FRel at h9
  have h9 : Sep No w w9 [stR b m 4294967295 sf.S sf.T, cpR cb b, cellsAt C1 (rsV q m 4294967295) 35, stR b2 m 4294967295 sf.S sf.T, cpR cb2 b2, cellsAt C2 (rsV q m 4294967295) 35] := Sep.left (Ps := [_, _, _, _, _, _]) h9
  have hr1 := crun_call h9 0 1 (by omega) rfl rfl HI2.out HT.out one (by omega)
  clear hf2 h9
  go_wp2_with fail
  refine hr1.mono ?_
  rintro e w10 ⟨na, da, S1, T1, H1, R1, ⟨rfl, A⟩, h10⟩
  have h10 : Sep No w w10 [stR b m 4294967295 S1 T1, cpR cb b, cellsAt C1 (rsV q m 4294967295) 35, stR b2 m 4294967295 sf.S sf.T, cpR cb2 b2, cellsAt C2 (rsV q m 4294967295) 35] := h10
  have hr2 := crun_call h10 0 1 (by omega) rfl rfl A.steps.inv HT.out two (by omega)
  have HA := Lib.hid A
  clear hr1 h10 A
  go_wp2_with fail
  refine hr2.mono ?_
  rintro e w11 ⟨nb, db, S2, T2, H2, R2, ⟨rfl, B⟩, h11⟩
  have h11 : Sep No w w11 [stR b m 4294967295 S2 T2, cpR cb b, cellsAt C1 (rsV q m 4294967295) 35, stR b2 m 4294967295 sf.S sf.T, cpR cb2 b2, cellsAt C2 (rsV q m 4294967295) 35] := h11
  have hr3 := crun_call h11 3 4 (by omega) rfl rfl HI2.out HT.out (one + two) (by omega)
  have e12 : IntKind.i64.wrap ((one : Int) + (two : Int)) = ((one + two : Nat) : Int) := by rw [IntKind.wrap_i64]; omega
  have HB := Lib.hid B
  clear hr2 h11 B
  go_wp2_with fail
  refine hr3.mono ?_
  rintro e w12 ⟨nc, dc, S3, T3, H3', R3, ⟨rfl, C⟩, h12⟩
  obtain ⟨hn, rfl, hle, hd⟩ := Ran.parts HI2.out HA.out HB.out C
  have h12 : Sep No w w12 [stR b m 4294967295 S2 T2, cpR cb b, cellsAt C1 (rsV q m 4294967295) 35, stR b2 m 4294967295 S2 T3, cpR cb2 b2, cellsAt C2 (rsV q m 4294967295) 35] := h12
  have hal : (stAll S2).length ≤ 40 := by
    have h1 := C.stAll_le
    have h2 := HI.out.2.2
    have h3 : (fst0 q m).R.length = 0 := rfl
    have := HR.out.2
    omega
  have eab : IntKind.i64.wrap ((na : Int) + (nb : Int)) = (nc : Int) := by rw [IntKind.wrap_i64]; omega
  have dn : ((nc : Int) != (nc : Int)) = false := bneF rfl
  obtain ⟨p, hp⟩ : ∃ p, S2.pg.length = p := ⟨_, rfl⟩
  obtain ⟨K, hK⟩ : ∃ K, one + two = K := ⟨_, rfl⟩
  rw [hK] at hle hd e12
  obtain ⟨al, hal'⟩ : ∃ n, (stAll S2).length = n := ⟨_, rfl⟩
  rw [hal'] at hal
  have HAL := Lib.hid hal'
  have hw1 := stwords_call h12 0 rfl
  rw [hp] at hw1
  have HP := Lib.hid hp
  have dp : ∀ x : Int, (x != x) = false := fun x => by simp
  have dp := dp (64 * (p : Int))
  clear hr3 h12 C HA HB HI HI2 hn hal' hp hK
  have hdd : ((decide ((nc : Int) < (K : Int)) = true ∧ nc < K) ∧ dc = true ∧ (db = true ∨ (decide (0 < two) = false ∧ decide ((0 : Int) < (two : Int)) = false ∧ ¬ 0 < two))) ∨ (decide ((nc : Int) < (K : Int)) = false ∧ ¬ nc < K) := by
    by_cases h : nc < K
    · refine .inl ⟨⟨ltT (by omega), h⟩, (hd h).2, ?_⟩
      rcases (hd h).1 with h1 | h1
      · exact .inl h1
      · exact .inr ⟨by simp [h1], ltF (by omega), by omega⟩
    · exact .inr ⟨ltF (by omega), h⟩
  clear hd h12
  rcases hdd with ⟨⟨dl, hl⟩, rfl, rfl | ⟨dt, dt2, ht⟩⟩ | ⟨dl, hl⟩
  · skip
    go_wp2_with fail
    refine hw1.mono ?_
    rintro e w13 ⟨rfl, h13⟩
    have h13 : Sep No w w13 [stR b m 4294967295 S2 T2, cpR cb b, cellsAt C1 (rsV q m 4294967295) 35, stR b2 m 4294967295 S2 T3, cpR cb2 b2, cellsAt C2 (rsV q m 4294967295) 35] := h13
    have hw2 := stwords_call h13 3 rfl
    rw [HP.out] at hw2
    clear hw1 h13
    go_wp2_with fail
    refine hw2.mono ?_
    rintro e w14 ⟨rfl, h14⟩
    have h14 : Sep No w w14 [stR b m 4294967295 S2 T2, cpR cb b, cellsAt C1 (rsV q m 4294967295) 35, stR b2 m 4294967295 S2 T3, cpR cb2 b2, cellsAt C2 (rsV q m 4294967295) 35] := h14
    have ha1 := stall_call h14 0 rfl
    clear hw2 h14
    go_wp2_with fail
    refine ha1.mono ?_
    rintro e w15 ⟨x1, c1, rfl, h15⟩
    rw [HAL.out]
    have h15 : Sep No w w15 [stR b m 4294967295 S2 T2, cpR cb b, cellsAt C1 (rsV q m 4294967295) 35, stR b2 m 4294967295 S2 T3, cpR cb2 b2, cellsAt C2 (rsV q m 4294967295) 35, hdRow (.slice x1 al c1) al (stAll S2)] := by rw [← HAL.out]; exact h15
    have ha2 := stall_call h15 3 rfl
    clear ha1 h15
    go_wp2_with fail
    refine ha2.mono ?_
    rintro e w16 ⟨x2, c2, rfl, h16⟩
    rw [HAL.out]
    have h16 : Sep No w w16 [stR b m 4294967295 S2 T2, cpR cb b, cellsAt C1 (rsV q m 4294967295) 35, stR b2 m 4294967295 S2 T3, cpR cb2 b2, cellsAt C2 (rsV q m 4294967295) 35, hdRow (.slice x1 al c1) al (stAll S2), hdRow (.slice x2 al c2) al (stAll S2)] := by rw [← HAL.out] at h16 ⊢; exact h16
    have H16 := Lib.hid h16
    clear ha2 h16
    go_wp2_with fail
    go_loopw [30] (fun iv wr => ∃ k : Nat, iv = .int .i64 k ∧ k ≤ al ∧ Mod No w16 wr) (fun iv _ => al - (RowKit.intOf iv).toNat)
    case atStart => exact ⟨0, rfl, Nat.zero_le _, Mod.refl _ _⟩
    case round =>
      obtain ⟨k, rfl, hk, hm⟩ := hrel
      by_cases hlt : k < al
      · obtain ⟨v, hv⟩ : ∃ v, (stAll S2)[k]? = some v := ⟨_, List.getElem?_eq_getElem (by rw [HAL.out]; exact hlt)⟩
        have h17 := H16.out.more hm
        obtain ⟨g1, rfl, e1, _⟩ := h17.item 6 rfl (o := k) (x := .int .u64 v) (by rw [List.getElem?_map, hv]; rfl)
        obtain ⟨g2, rfl, e2, _⟩ := h17.item 7 rfl (o := k) (x := .int .u64 v) (by rw [List.getElem?_map, hv]; rfl)
        have dal : ((al : Int) != (al : Int)) = false := bneF rfl
        have dv : (v != v) = false := bneF rfl
        have hki : (k : Int) < (al : Int) := by omega
        have HM := Lib.hid hm
        have HK1 : Hid (k + 1 ≤ al ∧ al - (k + 1) < al - k) := by exact Lib.hid ⟨by omega, by omega⟩
        clear hv h17 hm hlt
        go_wp2_with fail
        refine wp_region_quiet_lit (by kernel_rfl) (by kernel_rfl) ?_
        repeat (go_big_quiet_step (fail))
        refine wpQuiet_nil ?_
        intro wq hwq
        obtain ⟨nq, hwq⟩ := hwq
        have hq := Mod.of_drewN hwq
        clear hwq nq
        have HM2 := Lib.hid (HM.out.trans' hq)
        clear hq
        go_wp2_with fail
        go_roundw
        case rel => exact ⟨k + 1, by go_num, HK1.out.1, HM2.out⟩
        case measure => have := HK1.out.2; simp [RowKit.intOf]; omega
      · have dI : decide ((k : Int) < (al : Int)) = false := ltF (by omega)
        have dI2 : decide (k < al) = false := decide_eq_false hlt
        have HM := Lib.hid (H16.out.more hm).mod
        clear hlt hm H16
        go_wp2_with fail
        have ha := awake07_call wr (HT.out.mod HM.out)
        go_wp2_with fail
        refine ha.mono ?_
        rintro e w9 ⟨rfl, hm9⟩
        have H9 := Lib.hid (HM.out.trans' hm9)
        clear ha hm9
        go_wp2
        go_ret
        exact ⟨rfl, H9.out.below _ (Nat.le_refl _) (fun _ _ x => x)⟩
  · cases db with
    | true =>
      go_wp2_with fail
      refine hw1.mono ?_
      rintro e w13 ⟨rfl, h13⟩
      have h13 : Sep No w w13 [stR b m 4294967295 S2 T2, cpR cb b, cellsAt C1 (rsV q m 4294967295) 35, stR b2 m 4294967295 S2 T3, cpR cb2 b2, cellsAt C2 (rsV q m 4294967295) 35] := h13
      have hw2 := stwords_call h13 3 rfl
      rw [HP.out] at hw2
      clear hw1 h13
      go_wp2_with fail
      refine hw2.mono ?_
      rintro e w14 ⟨rfl, h14⟩
      have h14 : Sep No w w14 [stR b m 4294967295 S2 T2, cpR cb b, cellsAt C1 (rsV q m 4294967295) 35, stR b2 m 4294967295 S2 T3, cpR cb2 b2, cellsAt C2 (rsV q m 4294967295) 35] := h14
      have ha1 := stall_call h14 0 rfl
      clear hw2 h14
      go_wp2_with fail
      refine ha1.mono ?_
      rintro e w15 ⟨x1, c1, rfl, h15⟩
      rw [HAL.out]
      have h15 : Sep No w w15 [stR b m 4294967295 S2 T2, cpR cb b, cellsAt C1 (rsV q m 4294967295) 35, stR b2 m 4294967295 S2 T3, cpR cb2 b2, cellsAt C2 (rsV q m 4294967295) 35, hdRow (.slice x1 al c1) al (stAll S2)] := by rw [← HAL.out]; exact h15
      have ha2 := stall_call h15 3 rfl
      clear ha1 h15
      go_wp2_with fail
      refine ha2.mono ?_
      rintro e w16 ⟨x2, c2, rfl, h16⟩
      rw [HAL.out]
      have h16 : Sep No w w16 [stR b m 4294967295 S2 T2, cpR cb b, cellsAt C1 (rsV q m 4294967295) 35, stR b2 m 4294967295 S2 T3, cpR cb2 b2, cellsAt C2 (rsV q m 4294967295) 35, hdRow (.slice x1 al c1) al (stAll S2), hdRow (.slice x2 al c2) al (stAll S2)] := by rw [← HAL.out] at h16 ⊢; exact h16
      have H16 := Lib.hid h16
      clear ha2 h16
      go_wp2_with fail
      go_loopw [30] (fun iv wr => ∃ k : Nat, iv = .int .i64 k ∧ k ≤ al ∧ Mod No w16 wr) (fun iv _ => al - (RowKit.intOf iv).toNat)
      case atStart => exact ⟨0, rfl, Nat.zero_le _, Mod.refl _ _⟩
      case round =>
        obtain ⟨k, rfl, hk, hm⟩ := hrel
        by_cases hlt : k < al
        · obtain ⟨v, hv⟩ : ∃ v, (stAll S2)[k]? = some v := ⟨_, List.getElem?_eq_getElem (by rw [HAL.out]; exact hlt)⟩
          have h17 := H16.out.more hm
          obtain ⟨g1, rfl, e1, _⟩ := h17.item 6 rfl (o := k) (x := .int .u64 v) (by rw [List.getElem?_map, hv]; rfl)
          obtain ⟨g2, rfl, e2, _⟩ := h17.item 7 rfl (o := k) (x := .int .u64 v) (by rw [List.getElem?_map, hv]; rfl)
          have dal : ((al : Int) != (al : Int)) = false := bneF rfl
          have dv : (v != v) = false := bneF rfl
          have hki : (k : Int) < (al : Int) := by omega
          have HM := Lib.hid hm
          have HK1 : Hid (k + 1 ≤ al ∧ al - (k + 1) < al - k) := by exact Lib.hid ⟨by omega, by omega⟩
          clear hv h17 hm hlt
          go_wp2_with fail
          refine wp_region_quiet_lit (by kernel_rfl) (by kernel_rfl) ?_
          repeat (go_big_quiet_step (fail))
          refine wpQuiet_nil ?_
          intro wq hwq
          obtain ⟨nq, hwq⟩ := hwq
          have hq := Mod.of_drewN hwq
          clear hwq nq
          have HM2 := Lib.hid (HM.out.trans' hq)
          clear hq
          go_wp2_with fail
          go_roundw
          case rel => exact ⟨k + 1, by go_num, HK1.out.1, HM2.out⟩
          case measure => have := HK1.out.2; simp [RowKit.intOf]; omega
        · have dI : decide ((k : Int) < (al : Int)) = false := ltF (by omega)
          have dI2 : decide (k < al) = false := decide_eq_false hlt
          have HM := Lib.hid (H16.out.more hm).mod
          clear hlt hm H16
          go_wp2_with fail
          have ha := awake07_call wr (HT.out.mod HM.out)
          go_wp2_with fail
          refine ha.mono ?_
          rintro e w9 ⟨rfl, hm9⟩
          have H9 := Lib.hid (HM.out.trans' hm9)
          clear ha hm9
          go_wp2
          go_ret
          exact ⟨rfl, H9.out.below _ (Nat.le_refl _) (fun _ _ x => x)⟩
    | false =>
      go_wp2_with fail
      refine hw1.mono ?_
      rintro e w13 ⟨rfl, h13⟩
      have h13 : Sep No w w13 [stR b m 4294967295 S2 T2, cpR cb b, cellsAt C1 (rsV q m 4294967295) 35, stR b2 m 4294967295 S2 T3, cpR cb2 b2, cellsAt C2 (rsV q m 4294967295) 35] := h13
      have hw2 := stwords_call h13 3 rfl
      rw [HP.out] at hw2
      clear hw1 h13
      go_wp2_with fail
      refine hw2.mono ?_
      rintro e w14 ⟨rfl, h14⟩
      have h14 : Sep No w w14 [stR b m 4294967295 S2 T2, cpR cb b, cellsAt C1 (rsV q m 4294967295) 35, stR b2 m 4294967295 S2 T3, cpR cb2 b2, cellsAt C2 (rsV q m 4294967295) 35] := h14
      have ha1 := stall_call h14 0 rfl
      clear hw2 h14
      go_wp2_with fail
      refine ha1.mono ?_
      rintro e w15 ⟨x1, c1, rfl, h15⟩
      rw [HAL.out]
      have h15 : Sep No w w15 [stR b m 4294967295 S2 T2, cpR cb b, cellsAt C1 (rsV q m 4294967295) 35, stR b2 m 4294967295 S2 T3, cpR cb2 b2, cellsAt C2 (rsV q m 4294967295) 35, hdRow (.slice x1 al c1) al (stAll S2)] := by rw [← HAL.out]; exact h15
      have ha2 := stall_call h15 3 rfl
      clear ha1 h15
      go_wp2_with fail
      refine ha2.mono ?_
      rintro e w16 ⟨x2, c2, rfl, h16⟩
      rw [HAL.out]
      have h16 : Sep No w w16 [stR b m 4294967295 S2 T2, cpR cb b, cellsAt C1 (rsV q m 4294967295) 35, stR b2 m 4294967295 S2 T3, cpR cb2 b2, cellsAt C2 (rsV q m 4294967295) 35, hdRow (.slice x1 al c1) al (stAll S2), hdRow (.slice x2 al c2) al (stAll S2)] := by rw [← HAL.out] at h16 ⊢; exact h16
      have H16 := Lib.hid h16
      clear ha2 h16
      go_wp2_with fail
      go_loopw [30] (fun iv wr => ∃ k : Nat, iv = .int .i64 k ∧ k ≤ al ∧ Mod No w16 wr) (fun iv _ => al - (RowKit.intOf iv).toNat)
      case atStart => exact ⟨0, rfl, Nat.zero_le _, Mod.refl _ _⟩
      case round =>
        obtain ⟨k, rfl, hk, hm⟩ := hrel
        by_cases hlt : k < al
        · obtain ⟨v, hv⟩ : ∃ v, (stAll S2)[k]? = some v := ⟨_, List.getElem?_eq_getElem (by rw [HAL.out]; exact hlt)⟩
          have h17 := H16.out.more hm
          obtain ⟨g1, rfl, e1, _⟩ := h17.item 6 rfl (o := k) (x := .int .u64 v) (by rw [List.getElem?_map, hv]; rfl)
          obtain ⟨g2, rfl, e2, _⟩ := h17.item 7 rfl (o := k) (x := .int .u64 v) (by rw [List.getElem?_map, hv]; rfl)
          have dal : ((al : Int) != (al : Int)) = false := bneF rfl
          have dv : (v != v) = false := bneF rfl
          have hki : (k : Int) < (al : Int) := by omega
          have HM := Lib.hid hm
          have HK1 : Hid (k + 1 ≤ al ∧ al - (k + 1) < al - k) := by exact Lib.hid ⟨by omega, by omega⟩
          clear hv h17 hm hlt
          go_wp2_with fail
          refine wp_region_quiet_lit (by kernel_rfl) (by kernel_rfl) ?_
          repeat (go_big_quiet_step (fail))
          refine wpQuiet_nil ?_
          intro wq hwq
          obtain ⟨nq, hwq⟩ := hwq
          have hq := Mod.of_drewN hwq
          clear hwq nq
          have HM2 := Lib.hid (HM.out.trans' hq)
          clear hq
          go_wp2_with fail
          go_roundw
          case rel => exact ⟨k + 1, by go_num, HK1.out.1, HM2.out⟩
          case measure => have := HK1.out.2; simp [RowKit.intOf]; omega
        · have dI : decide ((k : Int) < (al : Int)) = false := ltF (by omega)
          have dI2 : decide (k < al) = false := decide_eq_false hlt
          have HM := Lib.hid (H16.out.more hm).mod
          clear hlt hm H16
          go_wp2_with fail
          have ha := awake07_call wr (HT.out.mod HM.out)
          go_wp2_with fail
          refine ha.mono ?_
          rintro e w9 ⟨rfl, hm9⟩
          have H9 := Lib.hid (HM.out.trans' hm9)
          clear ha hm9
          go_wp2
          go_ret
          exact ⟨rfl, H9.out.below _ (Nat.le_refl _) (fun _ _ x => x)⟩
  · skip
    go_wp2_with fail
    refine hw1.mono ?_
    rintro e w13 ⟨rfl, h13⟩
    have h13 : Sep No w w13 [stR b m 4294967295 S2 T2, cpR cb b, cellsAt C1 (rsV q m 4294967295) 35, stR b2 m 4294967295 S2 T3, cpR cb2 b2, cellsAt C2 (rsV q m 4294967295) 35] := h13
    have hw2 := stwords_call h13 3 rfl
    rw [HP.out] at hw2
    clear hw1 h13
    go_wp2_with fail
    refine hw2.mono ?_
    rintro e w14 ⟨rfl, h14⟩
    have h14 : Sep No w w14 [stR b m 4294967295 S2 T2, cpR cb b, cellsAt C1 (rsV q m 4294967295) 35, stR b2 m 4294967295 S2 T3, cpR cb2 b2, cellsAt C2 (rsV q m 4294967295) 35] := h14
    have ha1 := stall_call h14 0 rfl
    clear hw2 h14
    go_wp2_with fail
    refine ha1.mono ?_
    rintro e w15 ⟨x1, c1, rfl, h15⟩
    rw [HAL.out]
    have h15 : Sep No w w15 [stR b m 4294967295 S2 T2, cpR cb b, cellsAt C1 (rsV q m 4294967295) 35, stR b2 m 4294967295 S2 T3, cpR cb2 b2, cellsAt C2 (rsV q m 4294967295) 35, hdRow (.slice x1 al c1) al (stAll S2)] := by rw [← HAL.out]; exact h15
    have ha2 := stall_call h15 3 rfl
    clear ha1 h15
    go_wp2_with fail
    refine ha2.mono ?_
    rintro e w16 ⟨x2, c2, rfl, h16⟩
    rw [HAL.out]
    have h16 : Sep No w w16 [stR b m 4294967295 S2 T2, cpR cb b, cellsAt C1 (rsV q m 4294967295) 35, stR b2 m 4294967295 S2 T3, cpR cb2 b2, cellsAt C2 (rsV q m 4294967295) 35, hdRow (.slice x1 al c1) al (stAll S2), hdRow (.slice x2 al c2) al (stAll S2)] := by rw [← HAL.out] at h16 ⊢; exact h16
    have H16 := Lib.hid h16
    clear ha2 h16
    go_wp2_with fail
    go_loopw [30] (fun iv wr => ∃ k : Nat, iv = .int .i64 k ∧ k ≤ al ∧ Mod No w16 wr) (fun iv _ => al - (RowKit.intOf iv).toNat)
    case atStart => exact ⟨0, rfl, Nat.zero_le _, Mod.refl _ _⟩
    case round =>
      obtain ⟨k, rfl, hk, hm⟩ := hrel
      by_cases hlt : k < al
      · obtain ⟨v, hv⟩ : ∃ v, (stAll S2)[k]? = some v := ⟨_, List.getElem?_eq_getElem (by rw [HAL.out]; exact hlt)⟩
        have h17 := H16.out.more hm
        obtain ⟨g1, rfl, e1, _⟩ := h17.item 6 rfl (o := k) (x := .int .u64 v) (by rw [List.getElem?_map, hv]; rfl)
        obtain ⟨g2, rfl, e2, _⟩ := h17.item 7 rfl (o := k) (x := .int .u64 v) (by rw [List.getElem?_map, hv]; rfl)
        have dal : ((al : Int) != (al : Int)) = false := bneF rfl
        have dv : (v != v) = false := bneF rfl
        have hki : (k : Int) < (al : Int) := by omega
        have HM := Lib.hid hm
        have HK1 : Hid (k + 1 ≤ al ∧ al - (k + 1) < al - k) := by exact Lib.hid ⟨by omega, by omega⟩
        clear hv h17 hm hlt
        go_wp2_with fail
        refine wp_region_quiet_lit (by kernel_rfl) (by kernel_rfl) ?_
        repeat (go_big_quiet_step (fail))
        refine wpQuiet_nil ?_
        intro wq hwq
        obtain ⟨nq, hwq⟩ := hwq
        have hq := Mod.of_drewN hwq
        clear hwq nq
        have HM2 := Lib.hid (HM.out.trans' hq)
        clear hq
        go_wp2_with fail
        go_roundw
        case rel => exact ⟨k + 1, by go_num, HK1.out.1, HM2.out⟩
        case measure => have := HK1.out.2; simp [RowKit.intOf]; omega
      · have dI : decide ((k : Int) < (al : Int)) = false := ltF (by omega)
        have dI2 : decide (k < al) = false := decide_eq_false hlt
        have HM := Lib.hid (H16.out.more hm).mod
        clear hlt hm H16
        go_wp2_with fail
        have ha := awake07_call wr (HT.out.mod HM.out)
        go_wp2_with fail
        refine ha.mono ?_
        rintro e w9 ⟨rfl, hm9⟩
        have H9 := Lib.hid (HM.out.trans' hm9)
        clear ha hm9
        go_wp2
        go_ret
        exact ⟨rfl, H9.out.below _ (Nat.le_refl _) (fun _ _ x => x)⟩

theorem compactParts_walk (q m : Int) (sa : Option Addr) (len cap : Nat) (z : List (List Int)) (one two : Int) (w : World) (w0 : (Lit.int .i64 q).wf = true) (w1 : (Lit.int .i64 m).wf = true) (R : Recs w sa len [some .i64, some .i64, some .i64, some .u64] z) (w3 : (Lit.int .i64 one).wf = true) (w4 : (Lit.int .i64 two).wf = true) (hT : Tab64 w) :
    Calls Tryz.prog 3 #[.int .i64 q, .int .i64 m, .slice sa len cap, .int .i64 one, .int .i64 two] w fun e w' => e = .returned (.bool true) ∧ Below w.heap.size w w' := by
  by_cases hall : (0 ≤ q ∧ q ≤ 4000) ∧ (1 ≤ m ∧ m ≤ 1000) ∧ len ≤ 40 ∧ (0 ≤ one ∧ one ≤ 100) ∧ (0 ≤ two ∧ two ≤ 100)
  · obtain ⟨o, rfl⟩ := Int.eq_ofNat_of_zero_le hall.2.2.2.1.1
    obtain ⟨t, rfl⟩ := Int.eq_ofNat_of_zero_le hall.2.2.2.2.1
    exact parts_in q m o t w hall.1 hall.2.1 R hall.2.2.1 (by omega) (by omega) hT
  · have HM := Lib.hid (Mod.refl No w)
    have HT := Lib.hid hT
    clear hT R
    by_cases h1 : q < 0
    · have d1 := ltT h1
      clear hall h1
      go_enter Tryz.func3, Tryz.ntmps3
      have ha := awake07_call w (HT.out.mod HM.out)
      go_wp2_with fail
      refine ha.mono ?_
      rintro e w9 ⟨rfl, hm9⟩
      have H9 := Lib.hid (HM.out.trans' hm9)
      clear ha hm9
      go_wp2
      go_ret
      exact ⟨rfl, H9.out.below _ (Nat.le_refl _) (fun _ _ x => x)⟩
    have d1 : decide (q < 0) = false := ltF (by omega)
    by_cases h2 : 4000 < q
    · have d2 := ltT h2
      clear hall h1 h2
      go_enter Tryz.func3, Tryz.ntmps3
      have ha := awake07_call w (HT.out.mod HM.out)
      go_wp2_with fail
      refine ha.mono ?_
      rintro e w9 ⟨rfl, hm9⟩
      have H9 := Lib.hid (HM.out.trans' hm9)
      clear ha hm9
      go_wp2
      go_ret
      exact ⟨rfl, H9.out.below _ (Nat.le_refl _) (fun _ _ x => x)⟩
    have d2 : decide (4000 < q) = false := ltF (by omega)
    by_cases h3 : m < 1
    · have d3 := ltT h3
      clear hall h1 h2 h3
      go_enter Tryz.func3, Tryz.ntmps3
      have ha := awake07_call w (HT.out.mod HM.out)
      go_wp2_with fail
      refine ha.mono ?_
      rintro e w9 ⟨rfl, hm9⟩
      have H9 := Lib.hid (HM.out.trans' hm9)
      clear ha hm9
      go_wp2
      go_ret
      exact ⟨rfl, H9.out.below _ (Nat.le_refl _) (fun _ _ x => x)⟩
    have d3 : decide (m < 1) = false := ltF (by omega)
    by_cases h4 : 1000 < m
    · have d4 := ltT h4
      clear hall h1 h2 h3 h4
      go_enter Tryz.func3, Tryz.ntmps3
      have ha := awake07_call w (HT.out.mod HM.out)
      go_wp2_with fail
      refine ha.mono ?_
      rintro e w9 ⟨rfl, hm9⟩
      have H9 := Lib.hid (HM.out.trans' hm9)
      clear ha hm9
      go_wp2
      go_ret
      exact ⟨rfl, H9.out.below _ (Nat.le_refl _) (fun _ _ x => x)⟩
    have d4 : decide (1000 < m) = false := ltF (by omega)
    by_cases h5 : 40 < len
    · have d5 : decide ((40 : Int) < (len : Int)) = true := ltT (by omega)
      clear hall h1 h2 h3 h4 h5
      go_enter Tryz.func3, Tryz.ntmps3
      have ha := awake07_call w (HT.out.mod HM.out)
      go_wp2_with fail
      refine ha.mono ?_
      rintro e w9 ⟨rfl, hm9⟩
      have H9 := Lib.hid (HM.out.trans' hm9)
      clear ha hm9
      go_wp2
      go_ret
      exact ⟨rfl, H9.out.below _ (Nat.le_refl _) (fun _ _ x => x)⟩
    have d5 : decide ((40 : Int) < (len : Int)) = false := ltF (by omega)
    by_cases h6 : one < 0
    · have d6 := ltT h6
      clear hall h1 h2 h3 h4 h5 h6
      go_enter Tryz.func3, Tryz.ntmps3
      have ha := awake07_call w (HT.out.mod HM.out)
      go_wp2_with fail
      refine ha.mono ?_
      rintro e w9 ⟨rfl, hm9⟩
      have H9 := Lib.hid (HM.out.trans' hm9)
      clear ha hm9
      go_wp2
      go_ret
      exact ⟨rfl, H9.out.below _ (Nat.le_refl _) (fun _ _ x => x)⟩
    have d6 : decide (one < 0) = false := ltF (by omega)
    by_cases h7 : 100 < one
    · have d7 := ltT h7
      clear hall h1 h2 h3 h4 h5 h6 h7
      go_enter Tryz.func3, Tryz.ntmps3
      have ha := awake07_call w (HT.out.mod HM.out)
      go_wp2_with fail
      refine ha.mono ?_
      rintro e w9 ⟨rfl, hm9⟩
      have H9 := Lib.hid (HM.out.trans' hm9)
      clear ha hm9
      go_wp2
      go_ret
      exact ⟨rfl, H9.out.below _ (Nat.le_refl _) (fun _ _ x => x)⟩
    have d7 : decide (100 < one) = false := ltF (by omega)
    by_cases h8 : two < 0
    · have d8 := ltT h8
      clear hall h1 h2 h3 h4 h5 h6 h7 h8
      go_enter Tryz.func3, Tryz.ntmps3
      have ha := awake07_call w (HT.out.mod HM.out)
      go_wp2_with fail
      refine ha.mono ?_
      rintro e w9 ⟨rfl, hm9⟩
      have H9 := Lib.hid (HM.out.trans' hm9)
      clear ha hm9
      go_wp2
      go_ret
      exact ⟨rfl, H9.out.below _ (Nat.le_refl _) (fun _ _ x => x)⟩
    have d8 : decide (two < 0) = false := ltF (by omega)
    by_cases h9 : 100 < two
    · have d9 := ltT h9
      clear hall h1 h2 h3 h4 h5 h6 h7 h8 h9
      go_enter Tryz.func3, Tryz.ntmps3
      have ha := awake07_call w (HT.out.mod HM.out)
      go_wp2_with fail
      refine ha.mono ?_
      rintro e w9 ⟨rfl, hm9⟩
      have H9 := Lib.hid (HM.out.trans' hm9)
      clear ha hm9
      go_wp2
      go_ret
      exact ⟨rfl, H9.out.below _ (Nat.le_refl _) (fun _ _ x => x)⟩
    omega
end Go.Proofs.YtmdnofojecncgaaGreatDoor
