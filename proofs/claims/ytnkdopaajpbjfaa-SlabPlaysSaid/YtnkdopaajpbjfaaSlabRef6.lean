/- The reference of layer 1 (loftref01): Grant, walked. Conditions: the arena in memory is as said. -/
import Derived.Test.YtnkdopaajpbjfaaSlabRef5
namespace Go.Proofs.Ytnkdopaajpbjfaa
open Go Go.RowKit

variable {F : Nat → Prop} {w0 w : World}

theorem page_zero2 (n i : Nat) : ∃ Z A : Array Value, (∀ W, (zeroValue 59).run Try.prog W = .ok (.agg Z) W) ∧ ((Z = #[]) = False) ∧ Z.setIfInBounds 0 (.int .i64 ((n : Int) + (i : Int))) = A ∧ Z = (pcell0 0).toArray ∧ A = (pcell0 (n + i)).toArray ∧ A.size = 65 :=
  ⟨_, _, zeroPageV, by simp [pcell0], rfl, rfl, by simp [pcell0], by simp [pcell0]⟩

/-- What is behind i new pages. -/
def gout (hd : List Value) (L i : Nat) : List Value := hd ++ ((List.range i).map (L + ·)).flatMap pcell0
theorem gout_zero (hd : List Value) (L : Nat) : gout hd L 0 = hd := by simp [gout]
theorem gout_succ (hd : List Value) (L i : Nat) : gout hd L (i + 1) = gout hd L i ++ pcell0 (L + i) := by simp [gout, List.range_succ]

theorem rgrant_bad {b : Nat} {S : Slb} (h : Sep F w w [rslabR b S]) (n : Int) (hbad : n < 1 ∨ 4096 < n) :
    Calls Try.prog 30 #[.pointer (some ⟨b, 0, none⟩), .int .i64 n] w fun e w' => e = .returned (.tuple #[.int .i64 0, .int .i64 2]) ∧ Sep F w w' [rslabR b S] := by
  have H := Lib.hid h
  clear h
  by_cases g1 : n < 1
  · have d1 : decide (n < 1) = true := ltT g1
    clear hbad
    go_enter Try.func30, Try.ntmps30
    go_wp2
    go_ret2
    exact ⟨rfl, H.out⟩
  have d1 : decide (n < 1) = false := ltF (by omega)
  have d2 : decide (4096 < n) = true := ltT (by omega)
  clear hbad
  go_enter Try.func30, Try.ntmps30
  go_wp2
  go_ret2
  exact ⟨rfl, H.out⟩

set_option maxRecDepth 100000 in
set_option maxHeartbeats 1000000 in
theorem rgrant_quo {b : Nat} {S : Slb} (h : Sep F w w [rslabR b S]) (hS : S.Ok) (n : Int) (h1 : 1 ≤ n) (h2 : n ≤ 4096) (hq : S.quota < (S.pg.length + n) * 64) :
    Calls Try.prog 30 #[.pointer (some ⟨b, 0, none⟩), .int .i64 n] w fun e w' => e = .returned (.tuple #[.int .i64 0, .int .i64 3]) ∧ Sep F w w' [rslabR b S] := by
  have d1 : decide (n < 1) = false := ltF (by omega)
  have d2 : decide (4096 < n) = false := ltF (by omega)
  have hlen : (S.pg.length : Int) ≤ 4096 := by have := Slb.len_le hS; omega
  have d3 : decide (S.quota < 64 * ((S.pg.length : Int) + n)) = true := ltT (by omega)
  obtain ⟨sa, cap, h3⟩ := rs_open h
  have c0 := (h3.cell 0 rfl 0 (v := .int .i64 S.quota) rfl).1
  have c1 := (h3.cell 0 rfl 1 (v := .slice sa S.pg.length cap) rfl).1
  have H := Lib.hid h
  clear h hS hq h3
  go_enter Try.func30, Try.ntmps30
  go_wp2_with fail
  refine wp_region_quiet_lit (by kernel_rfl) (by kernel_rfl) ?_
  repeat (go_big_quiet_step (fail))
  refine wpQuiet_nil ?_
  intro wq hwq
  obtain ⟨nq, hwq⟩ := hwq
  have hq := Mod.of_drewN hwq
  clear hwq nq
  have H2 := Lib.hid (H.out.more hq)
  clear hq
  go_wp2
  go_ret2
  exact ⟨rfl, H2.out⟩




set_option maxRecDepth 100000 in
set_option maxHeartbeats 2000000 in
theorem rgrant_ok {b : Nat} {S : Slb} (h : Sep F w w [rslabR b S]) (hS : S.Ok) (n : Nat) (h1 : 1 ≤ n) (h2 : n ≤ 4096) (hq : ¬ S.quota < (S.pg.length + n) * 64) :
    Calls Try.prog 30 #[.pointer (some ⟨b, 0, none⟩), .int .i64 n] w fun e w' => e = .returned (.tuple #[.int .i64 (Slb.least S.pg n), .int .i64 0]) ∧ Sep F w w' [rslabR b { S with pg := Slb.more S.pg (Slb.least S.pg n) n }] := by
  have d1 : decide ((n : Int) < 1) = false := ltF (by omega)
  have d2 : decide ((4096 : Int) < (n : Int)) = false := ltF (by omega)
  have hlen : (S.pg.length : Int) ≤ 4096 := by have := Slb.len_le hS; omega
  have d3 : decide (S.quota < 64 * ((S.pg.length : Int) + (n : Int))) = false := ltF (by omega)
  obtain ⟨l1, l2, l3⟩ := Slb.least_spec S.pg n h1
  have hL : Slb.least S.pg n ≤ 16777216 := by
    have hm : n * S.pg.length ≤ 4096 * 4096 := Nat.mul_le_mul (by omega) (by omega)
    omega
  have HL3 := Lib.hid l3
  obtain ⟨c, hcl, s1, s2, s3⟩ := sorted_split hS.sorted (Slb.least S.pg n)
  have HM := Lib.hid (prow_more hS l2 hcl s1 s2)
  have HL := Lib.hid (Slb.more_length l2)
  have HF := Lib.hid l2
  have HS3 := Lib.hid s3
  have HS := Lib.hid hS
  have HW := Lib.hid hS.small
  generalize Slb.least S.pg n = L at *
  obtain ⟨sa, cap, h4⟩ := rs_open h
  have c0 := (h4.cell 0 rfl 0 (v := .int .i64 S.quota) rfl).1
  have c1 := (h4.cell 0 rfl 1 (v := .slice sa S.pg.length cap) rfl).1
  have HX := Lib.hid h4
  clear h hS hq l1 l2 l3 s1 s2 s3 h4
  go_enter Try.func30, Try.ntmps30
  go_wp2_with fail
  refine wp_region_quiet_lit (by kernel_rfl) (by kernel_rfl) ?_
  repeat (go_big_quiet_step (fail))
  refine wpQuiet_nil ?_
  intro wq hwq
  obtain ⟨nq, hwq⟩ := hwq
  have hq := Mod.of_drewN hwq
  clear hwq nq
  have HX := Lib.hid (HX.out.more hq)
  clear hq
  go_wp2_with fail
  go_loopw [6] (fun f wr => ∃ t : Nat, t ≤ L ∧ f = .int .i64 t ∧ Sep F w wr [cellsAt b #[.int .i64 S.quota, .slice sa S.pg.length cap] 48, rowAt 59 65 (.slice sa S.pg.length cap) S.pg.length (prow S.wd S.pg)]) (fun f _ => L + 1 - (RowKit.intOf f).toNat)
  case atStart => exact ⟨0, Nat.zero_le _, rfl, HX.out⟩
  case round =>
    obtain ⟨t, ht, rfl, h⟩ := hrel
    clear HX
    have c0 := (h.cell 0 rfl 0 (v := .int .i64 S.quota) rfl).1
    have c1 := (h.cell 0 rfl 1 (v := .slice sa S.pg.length cap) rfl).1
    have hc := rfree_call (h.row 1 rfl) HS.out t n (by omega) (by omega)
    have HX := Lib.hid h
    clear h
    by_cases hlt : t < L
    · rw [HL3.out t hlt] at hc
      go_wp2_with fail
      refine hc.mono ?_
      rintro e w1 ⟨rfl, hm⟩
      have H2 := Lib.hid (HX.out.more hm)
      clear hc hm
      go_wp2
      go_roundw
      case rel => exact ⟨t + 1, by omega, by go_num, H2.out⟩
      case measure => simp [RowKit.intOf]; omega
    obtain rfl : L = t := by omega
    rw [HF.out] at hc
    clear hlt
    go_wp2_with fail
    refine hc.mono ?_
    rintro e wq ⟨rfl, hm⟩
    have HX := Lib.hid (HX.out.more hm)
    have c0 := hm.cell c0 (fun x => x)
    have c1 := hm.cell c1 (fun x => x)
    clear hc hm
    rcases row_addr (HX.out.row 1 rfl) with ⟨rfl, hz, rfl⟩ | ⟨g, rfl⟩
    · obtain ⟨Q, pg, wd⟩ := S
      obtain rfl : pg = [] := List.eq_nil_of_length_eq_zero hz
      have HM := Lib.hid (show prow wd (Slb.more [] L n) = gout [] L n from by have := HM.out; simpa [prow, gout] using this)
      have HL := Lib.hid (show (Slb.more [] L n).length = n from by have := HL.out; simpa using this)
      have HX : Hid (Sep F w wq [cellsAt b #[.int .i64 Q, .slice none 0 0] 48, rowAt 59 65 (.slice none 0 0) 0 []]) := HX
      have c1 : wq.cell? ⟨b, 1, none⟩ = some (.slice none 0 0) := c1
      have c0 : wq.cell? ⟨b, 0, none⟩ = some (.int .i64 Q) := c0
      clear hz hcl HS3 HF HL3 HS HW
      go_wp2_with fail
      go_loop [7] (fun k => k = .int .i64 0) (fun _ => 0)
      case atStart => rfl
      case round =>
        subst hrel
        have hbw := lt_of_at (HX.out.block 0 rfl)
        have hE : Sep F w (wq.alloc (.cells #[] 59)) [cellsAt b #[.int .i64 Q, .slice none 0 0] 48, rowAt 59 65 (.slice none 0 0) 0 [], rowAt 59 65 (.slice (some ⟨wq.heap.size, 0, none⟩) 0 0) 0 []] := HX.out.pushEmpty _ _
        obtain ⟨i0, hi0, ⟨z0, hz0, hz3⟩, hz1, hz2⟩ := infoPage
        go_wp2_with (at_builtin; refine wpList_append_src hE 2 rfl (by rfl) _ _ 46 rfl Try.underlying46 hi0 hz0 hz1 hz2 hz3 (by decide) (by rfl) _ (by rfl) (.inl ⟨rfl, rfl, rfl⟩) (by unfold maxLen; omega) (by omega) ?_)
        intro so co w2 h2
        have H7 := Lib.hid (show Sep F w w2 [cellsAt b #[.int .i64 Q, .slice none 0 0] 48, rowAt 59 65 (.slice none 0 0) 0 [], rowAt 59 65 (.slice so 0 co) 0 []] from h2)
        clear hE h2 hi0 hz0 hz1 hz2 hz3 c0 c1
        clear HX
        go_wp2_with fail
        go_loopw [8, 9] (fun out k wr => ∃ i : Nat, i ≤ n ∧ k = .int .i64 i ∧ Sep F w wr [cellsAt b #[.int .i64 Q, .slice none 0 0] 48, rowAt 59 65 (.slice none 0 0) (0) ([]), rowAt 59 65 out ( i) (gout ([]) L i)]) (fun _ k _ => n - (RowKit.intOf k).toNat)
        case atStart => exact ⟨0, Nat.zero_le _, rfl, by rw [gout_zero]; exact H7.out⟩
        case round =>
          obtain ⟨i, hi, rfl, h⟩ := hrel
          clear H7
          obtain ⟨so, co, rfl⟩ := h.form 2 rfl
          by_cases hlt : i < n
          · have hlt' : (i : Int) < (n : Int) := by omega
            have hi0' : (0 : Int) ≤ (i : Int) := by omega
            have hLi : (L : Int) + (i : Int) ≤ 100000000 := by omega
            obtain ⟨i0, hi0, ⟨z0, hz0, hz3⟩, hz1, hz2⟩ := infoPage
            obtain ⟨Z, A, hzv, hZ1, hZ2, hZ3, hA, hA2⟩ := page_zero2 L i
            have HZ := Lib.hid hZ3
            have HA := Lib.hid hA
            have hzv := hzv wr
            clear hZ3 hA
            go_wp2_with (at_builtin; refine wpList_append_sepC h 2 rfl (by rfl) _ _ 46 rfl Try.underlying46 hi0 hz0 hz1 hz2 hz3 (by decide) (by rfl) (pcell0 (L + i)) _ (by rfl) (by simp) rfl (pcell0_one _) _ _ ((fold_page _ _ rfl hA2).trans HA.out) (by unfold maxLen; omega) (by omega) ?_)
            intro g3 c3 w3 h3
            have H3 := Lib.hid h3
            clear h h3 hzv hZ1 hi0 hz0 hz1 hz2 hz3
            go_wp2
            go_roundw
            case rel =>
              refine ⟨i + 1, by omega, by go_num, ?_⟩
              rw [gout_succ]
              exact H3.out
            case measure => simp [RowKit.intOf]; omega
          obtain rfl : n = i := by omega
          clear hlt
          have c1 := (h.cell 0 rfl 1 (v := .slice none 0 0) rfl).1
          obtain ⟨i0, hi0, ⟨z0, hz0, hz3⟩, hz1, hz2⟩ := infoPage
          go_wp2_with (at_builtin; refine wpList_append_src h 2 rfl (by rfl) _ _ 46 rfl Try.underlying46 hi0 hz0 hz1 hz2 hz3 (by decide) (by rfl) _ (by rfl) (.inl ⟨rfl, rfl, rfl⟩) (by unfold maxLen; omega) (by omega) ?_)
          intro s4 c4 w4 h4
          have h4 : Sep F w w4 [cellsAt b #[.int .i64 Q, .slice none 0 0] 48, rowAt 59 65 (.slice none 0 0) 0 [], rowAt 59 65 (.slice s4 n c4) (Slb.more [] L n).length (prow wd (Slb.more [] L n))] := by
            rw [HM.out, HL.out]
            exact h4
          have q3 := h4.cell 0 rfl 1 (v := .slice none 0 0) rfl
          have q1 := q3.1
          have q2 := q3.2
          have H5 := Lib.hid (rs_store (S := ⟨Q, [], wd⟩) (S' := ⟨Q, Slb.more [] L n, wd⟩) rfl h4)
          clear h h4 q3 hi0 hz0 hz1 hz2 hz3
          go_wp2
          go_ret2
          exact ⟨rfl, H5.out⟩
    · go_wp2_with fail
      go_loop [7] (fun k => ∃ j : Nat, j ≤ c ∧ k = .int .i64 j) (fun k => c + 1 - (RowKit.intOf k).toNat)
      case atStart => exact ⟨0, Nat.zero_le _, rfl⟩
      case round =>
        obtain ⟨j, hj, rfl⟩ := hrel
        by_cases hlt : j < c
        · have hs := List.getElem?_eq_getElem (show j < S.pg.length by omega)
          obtain ⟨g', hg', hjl, _, e0, _⟩ := ppage (HX.out.row 1 rfl) hs
          cases hg'
          have hne := (HS3.out j _ hs).2 hlt
          generalize S.pg[j] = k at *
          have b1 : decide ((k : Int) < (L : Int)) = true := ltT (by omega)
          have b3 : decide (k < L) = true := decide_eq_true hne
          clear hs hne
          go_wp2
          go_round
          case rel => exact ⟨j + 1, by omega, by go_num⟩
          case measure => simp [RowKit.intOf]; omega
        · obtain rfl : c = j := by omega
          have HE : Sep F w (wq.alloc (.cells #[] 59)) [cellsAt b #[.int .i64 S.quota, .slice (some ⟨g, 0, none⟩) S.pg.length cap] 48, rowAt 59 65 (.slice (some ⟨g, 0, none⟩) S.pg.length cap) S.pg.length (prow S.wd S.pg), rowAt 59 65 (.slice (some ⟨wq.heap.size, 0, none⟩) 0 0) 0 []] := HX.out.pushEmpty _ _
          have HE := Lib.hid HE
          have hbw := lt_of_at (HX.out.block 0 rfl)
          have hcap := row_cap (HX.out.row 1 rfl)
          have hgw := ((HX.out.row 1 rfl).lt g rfl).2
          clear hlt
          by_cases hje : c < S.pg.length
          · have hs := List.getElem?_eq_getElem hje
            obtain ⟨g', hg', hjl, _, e0, _⟩ := ppage (HX.out.row 1 rfl) hs
            cases hg'
            have hne : ¬ S.pg[c] < L := fun h => by have := (HS3.out c _ hs).1 h; omega
            generalize S.pg[c] = k at *
            have b1 : decide ((k : Int) < (L : Int)) = false := ltF (by omega)
            have b3 : decide (k < L) = false := decide_eq_false hne
            clear hs hne
            have hE := HE.out
            have hsrc := srcOf_head (hE.row 1 rfl) (prow_one _ _) c cap hcl
            obtain ⟨i0, hi0, ⟨z0, hz0, hz3⟩, hz1, hz2⟩ := infoPage
            go_wp2_with (at_builtin; refine wpList_append_src hE 2 rfl (by rfl) _ _ 46 rfl Try.underlying46 hi0 hz0 hz1 hz2 hz3 (by decide) (by rfl) _ (by rfl) hsrc (by unfold maxLen; omega) (by omega) ?_)
            intro so co w2 h2
            have H7 := Lib.hid (show Sep F w w2 [cellsAt b #[.int .i64 S.quota, .slice (some ⟨g, 0, none⟩) S.pg.length cap] 48, rowAt 59 65 (.slice (some ⟨g, 0, none⟩) S.pg.length cap) S.pg.length (prow S.wd S.pg), rowAt 59 65 (.slice so (c + 0) co) (c + 0) ((prow S.wd S.pg).take (c * 65))] from by simpa using h2)
            clear hE h2 hsrc hi0 hz0 hz1 hz2 hz3 c0 c1 HE
            clear b1 b3 e0
            clear HX
            go_wp2_with fail
            go_loopw [8, 9] (fun out k wr => ∃ i : Nat, i ≤ n ∧ k = .int .i64 i ∧ Sep F w wr [cellsAt b #[.int .i64 S.quota, .slice (some ⟨g, 0, none⟩) S.pg.length cap] 48, rowAt 59 65 (.slice (some ⟨g, 0, none⟩) S.pg.length cap) (S.pg.length) (prow S.wd S.pg), rowAt 59 65 out (c + i) (gout ((prow S.wd S.pg).take (c * 65)) L i)]) (fun _ k _ => n - (RowKit.intOf k).toNat)
            case atStart => exact ⟨0, Nat.zero_le _, rfl, by rw [gout_zero]; exact H7.out⟩
            case round =>
              obtain ⟨i, hi, rfl, h⟩ := hrel
              clear H7
              obtain ⟨so, co, rfl⟩ := h.form 2 rfl
              by_cases hlt : i < n
              · have hlt' : (i : Int) < (n : Int) := by omega
                have hi0' : (0 : Int) ≤ (i : Int) := by omega
                have hLi : (L : Int) + (i : Int) ≤ 100000000 := by omega
                obtain ⟨i0, hi0, ⟨z0, hz0, hz3⟩, hz1, hz2⟩ := infoPage
                obtain ⟨Z, A, hzv, hZ1, hZ2, hZ3, hA, hA2⟩ := page_zero2 L i
                have HZ := Lib.hid hZ3
                have HA := Lib.hid hA
                have hzv := hzv wr
                clear hZ3 hA
                go_wp2_with (at_builtin; refine wpList_append_sepC h 2 rfl (by rfl) _ _ 46 rfl Try.underlying46 hi0 hz0 hz1 hz2 hz3 (by decide) (by rfl) (pcell0 (L + i)) _ (by rfl) (by simp) rfl (pcell0_one _) _ _ ((fold_page _ _ rfl hA2).trans HA.out) (by unfold maxLen; omega) (by omega) ?_)
                intro g3 c3 w3 h3
                have H3 := Lib.hid h3
                clear h h3 hzv hZ1 hi0 hz0 hz1 hz2 hz3
                go_wp2
                go_roundw
                case rel =>
                  refine ⟨i + 1, by omega, by go_num, ?_⟩
                  rw [gout_succ]
                  exact H3.out
                case measure => simp [RowKit.intOf]; omega
              obtain rfl : n = i := by omega
              clear hlt
              have c1 := (h.cell 0 rfl 1 (v := .slice (some ⟨g, 0, none⟩) S.pg.length cap) rfl).1
              have hsrc := (srcOf_tail_lt (h.row 1 rfl) (prow_one _ _) c hje)
              obtain ⟨i0, hi0, ⟨z0, hz0, hz3⟩, hz1, hz2⟩ := infoPage
              go_wp2_with (at_builtin; refine wpList_append_src h 2 rfl (by rfl) _ _ 46 rfl Try.underlying46 hi0 hz0 hz1 hz2 hz3 (by decide) (by rfl) _ (by rfl) hsrc (by unfold maxLen; omega) (by omega) ?_)
              intro s4 c4 w4 h4
              have h4 : Sep F w w4 [cellsAt b #[.int .i64 S.quota, .slice (some ⟨g, 0, none⟩) S.pg.length cap] 48, rowAt 59 65 (.slice (some ⟨g, 0, none⟩) S.pg.length cap) S.pg.length (prow S.wd S.pg), rowAt 59 65 (.slice s4 (c + n + (S.pg.length - c)) c4) (Slb.more S.pg L n).length (prow S.wd (Slb.more S.pg L n))] := by
                rw [HM.out, HL.out]
                have e : c + n + (S.pg.length - c) = S.pg.length + n := by omega
                have h4' := h4
                rw [e] at h4' ⊢
                exact h4'
              have q3 := h4.cell 0 rfl 1 (v := .slice (some ⟨g, 0, none⟩) S.pg.length cap) rfl
              have q1 := q3.1
              have q2 := q3.2
              have H5 := Lib.hid (rs_store (S := S) (S' := { S with pg := Slb.more S.pg L n }) rfl h4)
              clear h h4 hsrc q3 hi0 hz0 hz1 hz2 hz3
              go_wp2
              go_ret2
              exact ⟨rfl, H5.out⟩
          · obtain rfl : c = S.pg.length := by omega
            have b1 : decide ((S.pg.length : Int) < (S.pg.length : Int)) = false := ltF (by omega)
            clear hje
            have hE := HE.out
            have hsrc := srcOf_head (hE.row 1 rfl) (prow_one _ _) S.pg.length cap (Nat.le_refl _)
            obtain ⟨i0, hi0, ⟨z0, hz0, hz3⟩, hz1, hz2⟩ := infoPage
            go_wp2_with (at_builtin; refine wpList_append_src hE 2 rfl (by rfl) _ _ 46 rfl Try.underlying46 hi0 hz0 hz1 hz2 hz3 (by decide) (by rfl) _ (by rfl) hsrc (by unfold maxLen; omega) (by omega) ?_)
            intro so co w2 h2
            have H7 := Lib.hid (show Sep F w w2 [cellsAt b #[.int .i64 S.quota, .slice (some ⟨g, 0, none⟩) S.pg.length cap] 48, rowAt 59 65 (.slice (some ⟨g, 0, none⟩) S.pg.length cap) S.pg.length (prow S.wd S.pg), rowAt 59 65 (.slice so (S.pg.length + 0) co) (S.pg.length + 0) ((prow S.wd S.pg).take (S.pg.length * 65))] from by simpa using h2)
            clear hE h2 hsrc hi0 hz0 hz1 hz2 hz3 c0 c1 HE
            clear b1
            clear HX
            go_wp2_with fail
            go_loopw [8, 9] (fun out k wr => ∃ i : Nat, i ≤ n ∧ k = .int .i64 i ∧ Sep F w wr [cellsAt b #[.int .i64 S.quota, .slice (some ⟨g, 0, none⟩) S.pg.length cap] 48, rowAt 59 65 (.slice (some ⟨g, 0, none⟩) S.pg.length cap) (S.pg.length) (prow S.wd S.pg), rowAt 59 65 out (S.pg.length + i) (gout ((prow S.wd S.pg).take (S.pg.length * 65)) L i)]) (fun _ k _ => n - (RowKit.intOf k).toNat)
            case atStart => exact ⟨0, Nat.zero_le _, rfl, by rw [gout_zero]; exact H7.out⟩
            case round =>
              obtain ⟨i, hi, rfl, h⟩ := hrel
              clear H7
              obtain ⟨so, co, rfl⟩ := h.form 2 rfl
              by_cases hlt : i < n
              · have hlt' : (i : Int) < (n : Int) := by omega
                have hi0' : (0 : Int) ≤ (i : Int) := by omega
                have hLi : (L : Int) + (i : Int) ≤ 100000000 := by omega
                obtain ⟨i0, hi0, ⟨z0, hz0, hz3⟩, hz1, hz2⟩ := infoPage
                obtain ⟨Z, A, hzv, hZ1, hZ2, hZ3, hA, hA2⟩ := page_zero2 L i
                have HZ := Lib.hid hZ3
                have HA := Lib.hid hA
                have hzv := hzv wr
                clear hZ3 hA
                go_wp2_with (at_builtin; refine wpList_append_sepC h 2 rfl (by rfl) _ _ 46 rfl Try.underlying46 hi0 hz0 hz1 hz2 hz3 (by decide) (by rfl) (pcell0 (L + i)) _ (by rfl) (by simp) rfl (pcell0_one _) _ _ ((fold_page _ _ rfl hA2).trans HA.out) (by unfold maxLen; omega) (by omega) ?_)
                intro g3 c3 w3 h3
                have H3 := Lib.hid h3
                clear h h3 hzv hZ1 hi0 hz0 hz1 hz2 hz3
                go_wp2
                go_roundw
                case rel =>
                  refine ⟨i + 1, by omega, by go_num, ?_⟩
                  rw [gout_succ]
                  exact H3.out
                case measure => simp [RowKit.intOf]; omega
              obtain rfl : n = i := by omega
              clear hlt
              have c1 := (h.cell 0 rfl 1 (v := .slice (some ⟨g, 0, none⟩) S.pg.length cap) rfl).1
              by_cases hcj : cap = S.pg.length
              · subst hcj
                have hsrc := (srcOf_zero wr 65 ⟨g, 0, none⟩ 0)
                obtain ⟨i0, hi0, ⟨z0, hz0, hz3⟩, hz1, hz2⟩ := infoPage
                go_wp2_with (at_builtin; refine wpList_append_src h 2 rfl (by rfl) _ _ 46 rfl Try.underlying46 hi0 hz0 hz1 hz2 hz3 (by decide) (by rfl) _ (by rfl) hsrc (by unfold maxLen; omega) (by omega) ?_)
                intro s4 c4 w4 h4
                have h4 : Sep F w w4 [cellsAt b #[.int .i64 S.quota, .slice (some ⟨g, 0, none⟩) S.pg.length S.pg.length] 48, rowAt 59 65 (.slice (some ⟨g, 0, none⟩) S.pg.length S.pg.length) S.pg.length (prow S.wd S.pg), rowAt 59 65 (.slice s4 (S.pg.length + n) c4) (Slb.more S.pg L n).length (prow S.wd (Slb.more S.pg L n))] := by
                  rw [HM.out, HL.out]
                  have e3 : (prow S.wd S.pg).drop (S.pg.length * 65) = [] := by rw [← prow_len S.wd S.pg]; exact List.drop_length
                  rw [e3, List.append_nil]
                  exact h4
                have q3 := h4.cell 0 rfl 1 (v := .slice (some ⟨g, 0, none⟩) S.pg.length S.pg.length) rfl
                have q1 := q3.1
                have q2 := q3.2
                have H5 := Lib.hid (rs_store (S := S) (S' := { S with pg := Slb.more S.pg L n }) rfl h4)
                clear h h4 hsrc q3 hi0 hz0 hz1 hz2 hz3
                go_wp2
                go_ret2
                exact ⟨rfl, H5.out⟩
              ·
                have hsrc := (srcOf_zero wr 65 ⟨g, S.pg.length * 65, none⟩ (cap - S.pg.length))
                obtain ⟨i0, hi0, ⟨z0, hz0, hz3⟩, hz1, hz2⟩ := infoPage
                go_wp2_with (at_builtin; refine wpList_append_src h 2 rfl (by rfl) _ _ 46 rfl Try.underlying46 hi0 hz0 hz1 hz2 hz3 (by decide) (by rfl) _ (by rfl) hsrc (by unfold maxLen; omega) (by omega) ?_)
                intro s4 c4 w4 h4
                have h4 : Sep F w w4 [cellsAt b #[.int .i64 S.quota, .slice (some ⟨g, 0, none⟩) S.pg.length cap] 48, rowAt 59 65 (.slice (some ⟨g, 0, none⟩) S.pg.length cap) S.pg.length (prow S.wd S.pg), rowAt 59 65 (.slice s4 (S.pg.length + n) c4) (Slb.more S.pg L n).length (prow S.wd (Slb.more S.pg L n))] := by
                  rw [HM.out, HL.out]
                  have e3 : (prow S.wd S.pg).drop (S.pg.length * 65) = [] := by rw [← prow_len S.wd S.pg]; exact List.drop_length
                  rw [e3, List.append_nil]
                  exact h4
                have q3 := h4.cell 0 rfl 1 (v := .slice (some ⟨g, 0, none⟩) S.pg.length cap) rfl
                have q1 := q3.1
                have q2 := q3.2
                have H5 := Lib.hid (rs_store (S := S) (S' := { S with pg := Slb.more S.pg L n }) rfl h4)
                clear h h4 hsrc q3 hi0 hz0 hz1 hz2 hz3
                go_wp2
                go_ret2
                exact ⟨rfl, H5.out⟩
end Go.Proofs.Ytnkdopaajpbjfaa
