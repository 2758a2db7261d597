/- HeapAny, walked. Condition: the table of math/bits holds what its initialiser lays. -/
import Derived.Test.YtfmkiioahnphbaaDoorHeapPlaysWalk
set_option linter.unusedVariables false
set_option linter.unusedSimpArgs false
set_option maxRecDepth 100000
namespace Go.Proofs.YtfmkiioahnphbaaDoor
open Go Go.RowKit

theorem Slb.claim_small {S : Slb} (h : ∀ k ∈ S.pg, k < 1048576) (n : Int) : ∀ k ∈ (S.claim n).2.pg, k < 1048576 := by
  unfold Slb.claim
  split
  · exact h
  split
  · exact h
  split
  · exact h
  · rename_i h1 _ _
    intro k hk
    unfold Slb.more at hk
    simp only [List.mem_append, List.mem_filter, List.mem_map, List.mem_range] at hk
    rcases hk with (⟨hk, _⟩ | ⟨i, hi, rfl⟩) | ⟨hk, _⟩
    · exact h k hk
    · omega
    · exact h k hk
theorem Slb.claim_quotaA (S : Slb) (n : Int) : (S.claim n).2.quota = S.quota := by
  unfold Slb.claim
  repeat' split <;> try rfl
theorem Slb.write_same (S : Slb) (a v : Int) : (S.write a v).2.quota = S.quota ∧ (S.write a v).2.pg = S.pg := by
  unfold Slb.write
  split <;> exact ⟨rfl, rfl⟩
/-- An arena of any words. -/
def AnyRel (w0 : World) (s : Nat) (wr : World) : Prop := ∃ S : Slb, S.quota = 4000 ∧ (∀ k ∈ S.pg, k < 1048576) ∧ Sep No w0 wr [slabR s S]

theorem op_size {x y : Value} : (Tryd.prog.info? 50).map (·.size) = some [x, y].length := by
  show _ = some 2
  kernel_rfl
set_option maxRecDepth 100000 in
set_option maxHeartbeats 8000000 in
theorem hany_in (s0 : Option Addr) (len0 cap0 : Nat) (z0 : List (List Int)) (s1 : Option Addr) (len1 cap1 : Nat) (z1 : List (List Int)) (s2 : Option Addr) (len2 cap2 : Nat) (z2 : List (List Int)) (w : World)
    (R0 : Recs w s0 len0 [some .i64] z0) (R1 : Recs w s1 len1 [some .i64, some .i64, some .u64] z1) (R2 : Recs w s2 len2 [some .i64, some .i64] z2) (l0 : len0 ≤ 30) (l1 : len1 ≤ 100) (l2 : len2 ≤ 40) (hT : Tab64 w) :
    Calls Tryd.prog 3 #[.slice s0 len0 cap0, .slice s1 len1 cap1, .slice s2 len2 cap2] w fun e w' => e = .returned (.bool true) ∧ Below w.heap.size w w' := by
  have d1 : decide ((30 : Int) < (len0 : Int)) = false := ltF (by omega)
  have d2 : decide ((100 : Int) < (len1 : Int)) = false := ltF (by omega)
  have d3 : decide ((40 : Int) < (len2 : Int)) = false := ltF (by omega)
  have HR0 := Lib.hid R0
  have HR1 := Lib.hid R1
  have HR2 := Lib.hid R2
  have HT := Lib.hid hT
  clear R0 R1 R2 hT
  go_enter Tryd.func3, Tryd.ntmps3
  go_wp2_with fail
  refine ((Sep.nil w).sNew 4000 (by omega) (by omega)).mono ?_
  rintro e w1 ⟨rfl, h⟩
  obtain ⟨s, hs⟩ : ∃ b, w.heap.size + 1 = b := ⟨_, rfl⟩
  have h0 : Sep No w w1 [slabR s (Slb.empty 4000)] := by rw [← hs]; exact h
  rw [hs]
  have HX : Hid (AnyRel w s w1) := ⟨Slb.empty 4000, rfl, (fun k hk => absurd hk (by show ¬ k ∈ ([] : List Nat); simp)), h0⟩
  clear h hs h0 d1 d2 d3
  go_wp2_with fail
  go_loopw [9] (fun i wr => ∃ j : Nat, i = .int .i64 j ∧ j ≤ len0 ∧ AnyRel w s wr) (fun i _ => len0 - (RowKit.intOf i).toNat)
  case atStart => exact ⟨0, rfl, Nat.zero_le _, HX.out⟩
  case round =>
    obtain ⟨j, rfl, hj, S, hq, hsm, h⟩ := hrel
    clear HX
    by_cases hlt : j < len0
    · obtain ⟨bb, off, rfl, hbk, hc⟩ := HR0.out.cells (by omega)
      have hzj : z0[j]? = some (z0[j]'(by rw [HR0.out.count]; exact hlt)) := List.getElem?_eq_getElem _
      obtain ⟨hrl, hro⟩ := HR0.out.ok _ (List.mem_of_getElem? hzj)
      generalize z0[j]'(by rw [HR0.out.count]; exact hlt) = r at *
      match r, hrl with
      | [n], _ =>
      have c0 := h.old (hc j _ hzj 0 _ n rfl rfl)
      have hn := bounds_i64 (hro 0 _ n rfl rfl)
      simp only [List.length_cons, List.length_nil, Nat.add_zero, Nat.zero_add, Nat.reduceAdd, fv, Nat.mul_one] at c0
      have hx := h.sClaim 0 rfl n (by omega) (by omega) (show S.claim n = ((S.claim n).1, (S.claim n).2) from rfl)
      have HC := Lib.hid (And.intro ((S.claim_quotaA n).trans hq) (Slb.claim_small hsm n))
      clear hc hzj hro hbk h hsm hq
      go_wp2_with fail
      refine hx.mono ?_
      rintro e w3 ⟨rfl, h3⟩
      have H3 : Hid (AnyRel w s w3) := ⟨_, HC.out.1, HC.out.2, h3⟩
      clear hx h3
      go_wp2
      go_roundw
      case rel => exact ⟨j + 1, by go_num, by omega, H3.out⟩
      case measure => (simp [RowKit.intOf]; try omega)
    · obtain rfl : j = len0 := by omega
      have HX : Hid (AnyRel w s wr) := ⟨S, hq, hsm, h⟩
      clear hlt hq hsm h
      go_wp2_with fail
      go_loopw [10] (fun i wr => ∃ j : Nat, i = .int .i64 j ∧ j ≤ len1 ∧ AnyRel w s wr) (fun i _ => len1 - (RowKit.intOf i).toNat)
      case atStart => exact ⟨0, rfl, Nat.zero_le _, HX.out⟩
      case round =>
        obtain ⟨t, rfl, ht, S, hq, hsm, h⟩ := hrel
        clear HX
        by_cases hlt : t < len1
        · obtain ⟨b1, o1, rfl, hbk, hc⟩ := HR1.out.cells (by omega)
          have hzj : z1[t]? = some (z1[t]'(by rw [HR1.out.count]; exact hlt)) := List.getElem?_eq_getElem _
          obtain ⟨hrl, hro⟩ := HR1.out.ok _ (List.mem_of_getElem? hzj)
          generalize z1[t]'(by rw [HR1.out.count]; exact hlt) = r at *
          match r, hrl with
          | [pg, at', wv], _ =>
          have c0 := h.old (hc t _ hzj 0 _ pg rfl rfl)
          have c1 := h.old (hc t _ hzj 1 _ at' rfl rfl)
          have c2 := h.drew.old (hc t _ hzj 2 _ wv rfl rfl)
          have C := Lib.hid (And.intro (hc t _ hzj 0 _ pg rfl rfl) (And.intro (hc t _ hzj 1 _ at' rfl rfl) (hc t _ hzj 2 _ wv rfl rfl)))
          have hv := bounds_u64 (hro 2 _ wv rfl rfl)
          simp only [List.length_cons, List.length_nil, Nat.add_zero, Nat.zero_add, Nat.reduceAdd, fv] at c0 c1 c2 C
          have HH := Lib.hid (And.intro hq (And.intro hsm h))
          by_cases hg : (0 ≤ pg ∧ pg < 1000) ∧ 0 ≤ at' ∧ at' < 64
          · have g1 : decide (0 ≤ pg) = true := leT hg.1.1
            have g2 : decide (pg < 1000) = true := ltT hg.1.2
            have g3 : decide (0 ≤ at') = true := leT hg.2.1
            have g4 : decide (at' < 64) = true := ltT hg.2.2
            have e1 : IntKind.i64.wrap (pg * 64) = pg * 64 := by rw [IntKind.wrap_i64]; omega
            have e2 : IntKind.i64.wrap (pg * 64 + at') = pg * 64 + at' := by rw [IntKind.wrap_i64]; omega
            clear hc hzj hro hbk h hsm hq hg
            go_wp2_with fail
            refine wp_region_held_drew (S := fun w' => w'.cell? ⟨b1, o1 + t * 3, none⟩ = some (.int .i64 pg) ∧ w'.cell? ⟨b1, o1 + t * 3 + 1, none⟩ = some (.int .i64 at') ∧ w'.cell? ⟨b1, o1 + t * 3 + 2, none⟩ = some (.int .u64 wv)) (by kernel_rfl) ⟨c0, c1, c2⟩ (fun hHeld => ?_)
            refine wpAnyH_takeD (i := 0) (v := ?_) (some 90) rfl (by rfl) (by kernel_rfl) (by kernel_rfl) (by kernel_rfl) (fun _ _ _ h => h) (Or.inl ⟨by rfl, ?_⟩) (by assumption) ?_
            rotate_left
            · intro w hSw
              try dsimp only at hSw
              go_simp
              try with_reducible rfl
            simp only [Act.put, List.setIfInBounds_toArray, List.set_cons_zero, List.set_cons_succ]
            refine wpAnyH_takeD (i := 1) (v := ?_) (some 91) rfl (by rfl) (by kernel_rfl) (by kernel_rfl) (by kernel_rfl) (fun _ _ _ h => h) (Or.inl ⟨by rfl, ?_⟩) (by assumption) ?_
            rotate_left
            · intro w hSw
              try dsimp only at hSw
              go_simp
              try with_reducible rfl
            simp only [Act.put, List.setIfInBounds_toArray, List.set_cons_zero, List.set_cons_succ]
            refine wpAnyH_takeD (i := 2) (v := ?_) (some 92) rfl (by rfl) (by kernel_rfl) (by kernel_rfl) (by kernel_rfl) (fun _ _ _ h => h) (Or.inl ⟨by rfl, ?_⟩) (by assumption) ?_
            rotate_left
            · intro w hSw
              try dsimp only at hSw
              go_simp
              try with_reducible rfl
            simp only [Act.put, List.setIfInBounds_toArray, List.set_cons_zero, List.set_cons_succ]
            refine wpAnyH_takeD (i := 3) (v := ?_) (some 93) rfl (by rfl) (by kernel_rfl) (by kernel_rfl) (by kernel_rfl) (fun _ _ _ h => h) (Or.inl ⟨by rfl, ?_⟩) (by assumption) ?_
            rotate_left
            · intro w hSw
              try dsimp only at hSw
              go_simp
              try with_reducible rfl
            simp only [Act.put, List.setIfInBounds_toArray, List.set_cons_zero, List.set_cons_succ]
            refine wpAnyH_takeD (i := 4) (v := ?_) (some 94) rfl (by rfl) (by kernel_rfl) (by kernel_rfl) (by kernel_rfl) (fun _ _ _ h => h) (Or.inl ⟨by rfl, ?_⟩) (by assumption) ?_
            rotate_left
            · intro w hSw
              try dsimp only at hSw
              go_simp
              try with_reducible rfl
            simp only [Act.put, List.setIfInBounds_toArray, List.set_cons_zero, List.set_cons_succ]
            refine wpAnyH_takeD (i := 5) (v := ?_) (some 95) rfl (by rfl) (by kernel_rfl) (by kernel_rfl) (by kernel_rfl) (fun _ _ _ h => h) (Or.inl ⟨by rfl, ?_⟩) (by assumption) ?_
            rotate_left
            · intro w hSw
              try dsimp only at hSw
              go_simp
              try with_reducible rfl
            simp only [Act.put, List.setIfInBounds_toArray, List.set_cons_zero, List.set_cons_succ]
            refine wpAnyH_takeD (i := 6) (v := ?_) (some 96) rfl (by rfl) (by kernel_rfl) (by kernel_rfl) (by kernel_rfl) (fun _ _ _ h => h) (Or.inl ⟨by rfl, ?_⟩) (by assumption) ?_
            rotate_left
            · intro w hSw
              try dsimp only at hSw
              go_simp
              try with_reducible rfl
            simp only [Act.put, List.setIfInBounds_toArray, List.set_cons_zero, List.set_cons_succ]
            refine wpAnyH_takeD (i := 7) (v := ?_) (some 97) rfl (by rfl) (by kernel_rfl) (by kernel_rfl) (by kernel_rfl) (fun _ _ _ h => h) (Or.inl ⟨by rfl, ?_⟩) (by assumption) ?_
            rotate_left
            · intro w hSw
              try dsimp only at hSw
              go_simp
              try with_reducible rfl
            simp only [Act.put, List.setIfInBounds_toArray, List.set_cons_zero, List.set_cons_succ]
            refine wpAnyH_takeD (i := 8) (v := ?_) (some 98) rfl (by rfl) (by kernel_rfl) (by kernel_rfl) (by kernel_rfl) (fun _ _ _ h => h) (Or.inl ⟨by rfl, ?_⟩) (by assumption) ?_
            rotate_left
            · intro w hSw
              try dsimp only at hSw
              go_simp
              try with_reducible rfl
            simp only [Act.put, List.setIfInBounds_toArray, List.set_cons_zero, List.set_cons_succ]
            refine wpAnyH_takeD (i := 9) (v := ?_) (some 99) rfl (by rfl) (by kernel_rfl) (by kernel_rfl) (by kernel_rfl) (fun _ _ _ h => h) (Or.inl ⟨by rfl, ?_⟩) (by assumption) ?_
            rotate_left
            · intro w hSw
              try dsimp only at hSw
              go_simp
              try with_reducible rfl
            simp only [Act.put, List.setIfInBounds_toArray, List.set_cons_zero, List.set_cons_succ]
            refine wpAnyH_takeD (i := 10) (v := ?_) (some 100) rfl (by rfl) (by kernel_rfl) (by kernel_rfl) (by kernel_rfl) (fun _ _ _ h => h) (Or.inl ⟨by rfl, ?_⟩) (by assumption) ?_
            rotate_left
            · intro w hSw
              try dsimp only at hSw
              go_simp
              try with_reducible rfl
            simp only [Act.put, List.setIfInBounds_toArray, List.set_cons_zero, List.set_cons_succ]
            refine wpAnyH_takeD (i := 11) (v := ?_) (some 101) rfl (by rfl) (by kernel_rfl) (by kernel_rfl) (by kernel_rfl) (fun _ _ _ h => h) (Or.inl ⟨by rfl, ?_⟩) (by assumption) ?_
            rotate_left
            · intro w hSw
              try dsimp only at hSw
              go_simp
              try with_reducible rfl
            simp only [Act.put, List.setIfInBounds_toArray, List.set_cons_zero, List.set_cons_succ]
            refine wpAnyH_takeD (i := 12) (v := ?_) (some 102) rfl (by rfl) (by kernel_rfl) (by kernel_rfl) (by kernel_rfl) (fun _ _ _ h => h) (Or.inl ⟨by rfl, ?_⟩) (by assumption) ?_
            rotate_left
            · intro w hSw
              try dsimp only at hSw
              go_simp
              try with_reducible rfl
            simp only [Act.put, List.setIfInBounds_toArray, List.set_cons_zero, List.set_cons_succ]
            refine wpAnyH_takeD (i := 13) (v := ?_) (some 103) rfl (by rfl) (by kernel_rfl) (by kernel_rfl) (by kernel_rfl) (fun _ _ _ h => h) (Or.inl ⟨by rfl, ?_⟩) (by assumption) ?_
            rotate_left
            · intro w hSw
              try dsimp only at hSw
              go_simp
              try with_reducible rfl
            simp only [Act.put, List.setIfInBounds_toArray, List.set_cons_zero, List.set_cons_succ]
            refine wpAnyH_takeD (i := 14) (v := ?_) (some 104) rfl (by rfl) (by kernel_rfl) (by kernel_rfl) (by kernel_rfl) (fun _ _ _ h => h) (Or.inl ⟨by rfl, ?_⟩) (by assumption) ?_
            rotate_left
            · intro w hSw
              try dsimp only at hSw
              go_simp
              try with_reducible rfl
            simp only [Act.put, List.setIfInBounds_toArray, List.set_cons_zero, List.set_cons_succ]
            refine wpAnyH_takeD (i := 15) (v := ?_) (some 105) rfl (by rfl) (by kernel_rfl) (by kernel_rfl) (by kernel_rfl) (fun _ _ _ h => h) (Or.inl ⟨by rfl, ?_⟩) (by assumption) ?_
            rotate_left
            · intro w hSw
              try dsimp only at hSw
              go_simp
              try with_reducible rfl
            simp only [Act.put, List.setIfInBounds_toArray, List.set_cons_zero, List.set_cons_succ]
            refine wpAnyH_takeD (i := 16) (v := ?_) (some 106) rfl (by rfl) (by kernel_rfl) (by kernel_rfl) (by kernel_rfl) (fun _ _ _ h => h) (Or.inl ⟨by rfl, ?_⟩) (by assumption) ?_
            rotate_left
            · intro w hSw
              try dsimp only at hSw
              go_simp
              try with_reducible rfl
            simp only [Act.put, List.setIfInBounds_toArray, List.set_cons_zero, List.set_cons_succ]
            refine wpAnyH_takeD (i := 17) (v := ?_) (some 107) rfl (by rfl) (by kernel_rfl) (by kernel_rfl) (by kernel_rfl) (fun _ _ _ h => h) (Or.inl ⟨by rfl, ?_⟩) (by assumption) ?_
            rotate_left
            · intro w hSw
              try dsimp only at hSw
              go_simp
              try with_reducible rfl
            simp only [Act.put, List.setIfInBounds_toArray, List.set_cons_zero, List.set_cons_succ]
            refine wpAnyH_ready (rs := [18]) (by kernel_rfl) (by simp) ?_
            refine AllReadyH.cons rfl (fun K hK => ?_) AllReadyH.nil
            go_simp
            refine (HH.out.2.2.drew.sWrite 0 rfl (pg * 64 + at') wv (by omega) (by omega) (show S.write (pg * 64 + at') wv = ((S.write (pg * 64 + at') wv).1, (S.write (pg * 64 + at') wv).2) from rfl)).mono ?_
            rintro e w5 ⟨rfl, h5⟩
            have h5 : Sep No w w5 [slabR s (S.write (pg * 64 + at') wv).2] := h5
            have H5 : Hid (AnyRel w s w5) := ⟨_, (S.write_same _ _).1.trans HH.out.1, by rw [(S.write_same _ _).2]; exact HH.out.2.1, h5⟩
            have HX := And.intro (h5.old C.out.1) (And.intro (h5.old C.out.2.1) (h5.old C.out.2.2))
            clear h5
            refine hK.out _ _ HX (fun _ => ?_)
            clear hK K hHeld
            have hHeld := HX
            clear HX
            try simp only [Act.put, List.setIfInBounds_toArray, List.set_cons_zero, List.set_cons_succ]
            refine wpAnyH_done (by kernel_rfl) ?_ _
            clear hHeld
            go_wp2
            go_roundw
            case rel => exact ⟨t + 1, by go_num, by omega, H5.out⟩
            case measure => (simp [RowKit.intOf]; try omega)
          · have H5 : Hid (AnyRel w s wr) := ⟨S, HH.out.1, HH.out.2.1, HH.out.2.2⟩
            clear hc hzj hro hbk h hsm hq c2
            by_cases a1 : 0 ≤ pg
            · have g1 : decide (0 ≤ pg) = true := leT a1
              by_cases a2 : pg < 1000
              · have g2 : decide (pg < 1000) = true := ltT a2
                by_cases a3 : 0 ≤ at'
                · have g3 : decide (0 ≤ at') = true := leT a3
                  have g4 : decide (at' < 64) = false := ltF (by omega)
                  clear a1 a2 a3 hg
                  go_wp2
                  go_roundw
                  case rel => exact ⟨t + 1, by go_num, by omega, H5.out⟩
                  case measure => (simp [RowKit.intOf]; try omega)
                · have g3 : decide (0 ≤ at') = false := leF (by omega)
                  clear a1 a2 a3 hg
                  go_wp2
                  go_roundw
                  case rel => exact ⟨t + 1, by go_num, by omega, H5.out⟩
                  case measure => (simp [RowKit.intOf]; try omega)
              · have g2 : decide (pg < 1000) = false := ltF (by omega)
                clear a1 a2 hg
                go_wp2
                go_roundw
                case rel => exact ⟨t + 1, by go_num, by omega, H5.out⟩
                case measure => (simp [RowKit.intOf]; try omega)
            · have g1 : decide (0 ≤ pg) = false := leF (by omega)
              clear a1 hg
              go_wp2
              go_roundw
              case rel => exact ⟨t + 1, by go_num, by omega, H5.out⟩
              case measure => (simp [RowKit.intOf]; try omega)
        · obtain rfl : t = len1 := by omega
          clear hlt
          rcases Slb.audit_cases S with ha | ha
          · have R := Slb.audit_rep (h.sOk 0 rfl) hsm ha
            have hc := h.hNew 0 rfl ha
            obtain ⟨H, hH⟩ : ∃ H, S.heads = H := ⟨_, rfl⟩
            rw [hH] at R
            have HRp := Lib.hid R
            clear hH hq hsm h ha R
            go_wp2_with fail
            refine hc.mono ?_
            rintro e w5 ⟨rfl, h5⟩
            obtain ⟨hp, hhp⟩ : ∃ x, wr.heap.size = x := ⟨_, rfl⟩
            rw [hhp] at h5 ⊢
            have H5 : Hid (Sep No w w5 [slabR s S, hpAt hp s]) := h5
            clear hc h5 hhp
            go_wp2_with fail
            refine (H5.out.hLive 1 0 rfl rfl).mono ?_
            rintro e w6 ⟨v6, rfl, h6⟩
            obtain ⟨g6, cap6, rfl⟩ := h6.form 2 rfl
            obtain ⟨ll, hll⟩ : ∃ ll, S.live.length = ll := ⟨_, rfl⟩
            rw [hll]
            have HL6 := Lib.hid hll
            have H6 : Hid (Sep No w w6 [slabR s S, hpAt hp s, rowAt 3 1 (.slice g6 ll cap6) ll (S.live.map (Value.int .i64))]) := by rw [← hll]; exact h6
            have hlb : ll ≤ 1000000 := by
              have hK := HRp.out.live_len
              omega
            clear h6 H5 hll
            go_wp2_with fail
            go_loopw [14] (fun iv wx => ∃ x : Nat, iv = .int .i64 x ∧ x ≤ ll ∧ Sep No w wx [slabR s S, hpAt hp s, rowAt 3 1 (.slice g6 ll cap6) ll (S.live.map (Value.int .i64))]) (fun iv _ => ll - (RowKit.intOf iv).toNat)
            case atStart => exact ⟨0, rfl, Nat.zero_le _, H6.out⟩
            case round =>
              obtain ⟨x, rfl, hx, h⟩ := hrel
              clear H6
              by_cases hlt : x < ll
              · have HLv := HRp.out.live
                have hxl : x < (blks H).length := by rw [← List.length_map (f := fun b : Nat × Nat => (b.1 : Int)), ← HLv, HL6.out]; exact hlt
                obtain ⟨⟨a, r⟩, hbk⟩ : ∃ bk, (blks H)[x]? = some bk := ⟨_, List.getElem?_eq_getElem hxl⟩
                have hbm := List.mem_of_getElem? hbk
                have hla : S.live[x]? = some (a : Int) := by rw [HLv, List.getElem?_map, hbk]; rfl
                have hrm := HRp.out.room_blk hbm
                have hbp := fun (a' : Nat) h' => HRp.out.blk_page hbm (a := a') h'
                have hrg := HRp.out.blk_range hbm
                dsimp only at hrg hbp
                have hro := hroom_call h 1 0 rfl rfl (a : Int) (by omega) (by omega)
                obtain ⟨gl, rfl, cl, hfr⟩ := h.item 2 rfl (o := x) (x := .int .i64 (a : Int)) (by rw [List.getElem?_map, hla]; rfl)
                rw [hrm] at hro
                have HH := Lib.hid h
                clear h hrm
                go_wp2_with fail
                refine hro.mono ?_
                rintro e w8 ⟨rfl, hm8⟩
                have H8 := Lib.hid (HH.out.more hm8)
                clear hro hm8
                go_wp2_with fail
                have hs1 : S.has ((a : Int) / 64) = true := Slb.has_iff.2 ⟨by omega, by rw [show ((a : Int) / 64).toNat = a / 64 by omega]; exact (hbp a ⟨by omega, by omega⟩).1⟩
                have hs2 : S.has (((a : Int) + r - 1) / 64) = true := Slb.has_iff.2 ⟨by omega, by rw [show (((a : Int) + r - 1) / 64).toNat = (a + r - 1) / 64 by omega]; exact (hbp (a + r - 1) ⟨by omega, by omega⟩).1⟩
                have e1 : IntKind.i64.wrap ((a : Int) / 64) = (a : Int) / 64 := by rw [IntKind.wrap_i64]; omega
                have e2 : IntKind.i64.wrap ((a : Int) + r) = (a : Int) + r := by rw [IntKind.wrap_i64]; omega
                have e3 : IntKind.i64.wrap ((a : Int) + r - 1) = (a : Int) + r - 1 := by rw [IntKind.wrap_i64]; omega
                have e4 : IntKind.i64.wrap (Int.tdiv ((a : Int) + r - 1) 64) = ((a : Int) + r - 1) / 64 := by rw [Int.tdiv_eq_ediv_of_nonneg (by omega), IntKind.wrap_i64]; omega
                have HS := Lib.hid (And.intro hs1 hs2)
                clear hbp hs1 hs2
                have H8d := Lib.hid H8.out.drew
                have cl8 := (H8d.out.item 2 rfl (o := x) (x := .int .i64 (a : Int)) (by rw [List.getElem?_map, hla]; rfl))
                have hr2 : 2 ≤ r ∧ r ≤ 4000 := ⟨by omega, by omega⟩
                have dr : decide ((r : Int) < 1) = false := ltF (by omega)
                by_cases hx0 : x = 0
                · subst hx0
                  obtain ⟨gl', hgl', c8, _⟩ := cl8
                  simp only [Option.some.injEq, Addr.mk.injEq] at hgl'
                  obtain ⟨rfl, _⟩ := hgl'
                  refine wp_region_held_drew (S := fun w' => w'.cell? ⟨gl, 0, none⟩ = some (.int .i64 (a : Int))) (by kernel_rfl) c8 (fun hHeld => ?_)
                  refine wpAnyH_takeD (i := 0) (v := ?_) (some 143) rfl (by rfl) (by kernel_rfl) (by kernel_rfl) (by kernel_rfl) (fun _ _ _ h => h) (Or.inl ⟨by rfl, ?_⟩) (by assumption) ?_
                  rotate_left
                  · intro w hSw
                    try dsimp only at hSw
                    go_simp
                    try with_reducible rfl
                  simp only [Act.put, List.setIfInBounds_toArray, List.set_cons_zero, List.set_cons_succ]
                  refine wpAnyH_takeD (i := 1) (v := ?_) (some 144) rfl (by rfl) (by kernel_rfl) (by kernel_rfl) (by kernel_rfl) (fun _ _ _ h => h) (Or.inl ⟨by rfl, ?_⟩) (by assumption) ?_
                  rotate_left
                  · intro w hSw
                    try dsimp only at hSw
                    go_simp
                    try with_reducible rfl
                  simp only [Act.put, List.setIfInBounds_toArray, List.set_cons_zero, List.set_cons_succ]
                  refine wpAnyH_takeD (i := 2) (v := ?_) (some 145) rfl (by rfl) (by kernel_rfl) (by kernel_rfl) (by kernel_rfl) (fun _ _ _ h => h) (Or.inl ⟨by rfl, ?_⟩) (by assumption) ?_
                  rotate_left
                  · intro w hSw
                    try dsimp only at hSw
                    go_simp
                    try with_reducible rfl
                  simp only [Act.put, List.setIfInBounds_toArray, List.set_cons_zero, List.set_cons_succ]
                  refine wpAnyH_takeD (i := 3) (v := ?_) (some 146) rfl (by rfl) (by kernel_rfl) (by kernel_rfl) (by kernel_rfl) (fun _ _ _ h => h) (Or.inl ⟨by rfl, ?_⟩) (by assumption) ?_
                  rotate_left
                  · intro w hSw
                    try dsimp only at hSw
                    go_simp
                    try with_reducible rfl
                  simp only [Act.put, List.setIfInBounds_toArray, List.set_cons_zero, List.set_cons_succ]
                  refine wpAnyH_takeD (i := 4) (v := ?_) (some 147) rfl (by rfl) (by kernel_rfl) (by kernel_rfl) (by kernel_rfl) (fun _ _ _ h => h) (Or.inl ⟨by rfl, ?_⟩) (by assumption) ?_
                  rotate_left
                  · intro w hSw
                    try dsimp only at hSw
                    go_simp
                    try with_reducible rfl
                  simp only [Act.put, List.setIfInBounds_toArray, List.set_cons_zero, List.set_cons_succ]
                  refine wpAnyH_takeD (i := 5) (v := ?_) (some 148) rfl (by rfl) (by kernel_rfl) (by kernel_rfl) (by kernel_rfl) (fun _ _ _ h => h) (Or.inl ⟨by rfl, ?_⟩) (by assumption) ?_
                  rotate_left
                  · intro w hSw
                    try dsimp only at hSw
                    go_simp
                    try with_reducible rfl
                  simp only [Act.put, List.setIfInBounds_toArray, List.set_cons_zero, List.set_cons_succ]
                  refine wpAnyH_takeD (i := 6) (v := ?_) (some 149) rfl (by rfl) (by kernel_rfl) (by kernel_rfl) (by kernel_rfl) (fun _ _ _ h => h) (Or.inl ⟨by rfl, ?_⟩) (by assumption) ?_
                  rotate_left
                  · intro w hSw
                    try dsimp only at hSw
                    go_simp
                    try with_reducible rfl
                  simp only [Act.put, List.setIfInBounds_toArray, List.set_cons_zero, List.set_cons_succ]
                  refine wpAnyH_takeD (i := 7) (v := ?_) (some 150) rfl (by rfl) (by kernel_rfl) (by kernel_rfl) (by kernel_rfl) (fun _ _ _ h => h) (Or.inl ⟨by rfl, ?_⟩) (by assumption) ?_
                  rotate_left
                  · intro w hSw
                    try dsimp only at hSw
                    go_simp
                    try with_reducible rfl
                  simp only [Act.put, List.setIfInBounds_toArray, List.set_cons_zero, List.set_cons_succ]
                  refine wpAnyH_takeD (i := 8) (v := ?_) (some 151) rfl (by rfl) (by kernel_rfl) (by kernel_rfl) (by kernel_rfl) (fun _ _ _ h => h) (Or.inl ⟨by rfl, ?_⟩) (by assumption) ?_
                  rotate_left
                  · intro w hSw
                    try dsimp only at hSw
                    go_simp
                    try with_reducible rfl
                  simp only [Act.put, List.setIfInBounds_toArray, List.set_cons_zero, List.set_cons_succ]
                  refine wpAnyH_takeD (i := 9) (v := ?_) (some 152) rfl (by rfl) (by kernel_rfl) (by kernel_rfl) (by kernel_rfl) (fun _ _ _ h => h) (Or.inl ⟨by rfl, ?_⟩) (by assumption) ?_
                  rotate_left
                  · intro w hSw
                    try dsimp only at hSw
                    go_simp
                    try with_reducible rfl
                  simp only [Act.put, List.setIfInBounds_toArray, List.set_cons_zero, List.set_cons_succ]
                  refine wpAnyH_takeD (i := 10) (v := undef) (some 153) rfl (by rfl) (by kernel_rfl) (by kernel_rfl) (by kernel_rfl) (fun _ _ _ h => h) (Or.inr ⟨by rfl, rfl⟩) (by assumption) ?_
                  simp only [Act.put, List.setIfInBounds_toArray, List.set_cons_zero, List.set_cons_succ]
                  refine wpAnyH_takeD (i := 11) (v := undef) (some 154) rfl (by rfl) (by kernel_rfl) (by kernel_rfl) (by kernel_rfl) (fun _ _ _ h => h) (Or.inr ⟨by rfl, rfl⟩) (by assumption) ?_
                  simp only [Act.put, List.setIfInBounds_toArray, List.set_cons_zero, List.set_cons_succ]
                  refine wpAnyH_takeD (i := 12) (v := undef) (some 155) rfl (by rfl) (by kernel_rfl) (by kernel_rfl) (by kernel_rfl) (fun _ _ _ h => h) (Or.inr ⟨by rfl, rfl⟩) (by assumption) ?_
                  simp only [Act.put, List.setIfInBounds_toArray, List.set_cons_zero, List.set_cons_succ]
                  refine wpAnyH_takeD (i := 13) (v := undef) (some 156) rfl (by rfl) (by kernel_rfl) (by kernel_rfl) (by kernel_rfl) (fun _ _ _ h => h) (Or.inr ⟨by rfl, rfl⟩) (by assumption) ?_
                  simp only [Act.put, List.setIfInBounds_toArray, List.set_cons_zero, List.set_cons_succ]
                  refine wpAnyH_takeD (i := 14) (v := undef) (some 157) rfl (by rfl) (by kernel_rfl) (by kernel_rfl) (by kernel_rfl) (fun _ _ _ h => h) (Or.inr ⟨by rfl, rfl⟩) (by assumption) ?_
                  simp only [Act.put, List.setIfInBounds_toArray, List.set_cons_zero, List.set_cons_succ]
                  refine wpAnyH_takeD (i := 15) (v := undef) (some 158) rfl (by rfl) (by kernel_rfl) (by kernel_rfl) (by kernel_rfl) (fun _ _ _ h => h) (Or.inr ⟨by rfl, rfl⟩) (by assumption) ?_
                  simp only [Act.put, List.setIfInBounds_toArray, List.set_cons_zero, List.set_cons_succ]
                  refine wpAnyH_takeD (i := 16) (v := undef) (some 159) rfl (by rfl) (by kernel_rfl) (by kernel_rfl) (by kernel_rfl) (fun _ _ _ h => h) (Or.inr ⟨by rfl, rfl⟩) (by assumption) ?_
                  simp only [Act.put, List.setIfInBounds_toArray, List.set_cons_zero, List.set_cons_succ]
                  refine wpAnyH_takeD (i := 17) (v := undef) (some 160) rfl (by rfl) (by kernel_rfl) (by kernel_rfl) (by kernel_rfl) (fun _ _ _ h => h) (Or.inr ⟨by rfl, rfl⟩) (by assumption) ?_
                  simp only [Act.put, List.setIfInBounds_toArray, List.set_cons_zero, List.set_cons_succ]
                  refine wpAnyH_takeD (i := 18) (v := undef) (some 161) rfl (by rfl) (by kernel_rfl) (by kernel_rfl) (by kernel_rfl) (fun _ _ _ h => h) (Or.inr ⟨by rfl, rfl⟩) (by assumption) ?_
                  simp only [Act.put, List.setIfInBounds_toArray, List.set_cons_zero, List.set_cons_succ]
                  refine wpAnyH_takeD (i := 19) (v := undef) (some 162) rfl (by rfl) (by kernel_rfl) (by kernel_rfl) (by kernel_rfl) (fun _ _ _ h => h) (Or.inr ⟨by rfl, rfl⟩) (by assumption) ?_
                  simp only [Act.put, List.setIfInBounds_toArray, List.set_cons_zero, List.set_cons_succ]
                  refine wpAnyH_takeD (i := 20) (v := ?_) (some 163) rfl (by rfl) (by kernel_rfl) (by kernel_rfl) (by kernel_rfl) (fun _ _ _ h => h) (Or.inl ⟨by rfl, ?_⟩) (by assumption) ?_
                  rotate_left
                  · intro w hSw
                    try dsimp only at hSw
                    go_simp
                    try with_reducible rfl
                  simp only [Act.put, List.setIfInBounds_toArray, List.set_cons_zero, List.set_cons_succ]
                  refine wpAnyH_takeD (i := 21) (v := ?_) (some 164) rfl (by rfl) (by kernel_rfl) (by kernel_rfl) (by kernel_rfl) (fun _ _ _ h => h) (Or.inl ⟨by rfl, ?_⟩) (by assumption) ?_
                  rotate_left
                  · intro w hSw
                    try dsimp only at hSw
                    go_simp
                    try with_reducible rfl
                  simp only [Act.put, List.setIfInBounds_toArray, List.set_cons_zero, List.set_cons_succ]
                  refine wpAnyH_takeD (i := 22) (v := ?_) (some 165) rfl (by rfl) (by kernel_rfl) (by kernel_rfl) (by kernel_rfl) (fun _ _ _ h => h) (Or.inl ⟨by rfl, ?_⟩) (by assumption) ?_
                  rotate_left
                  · intro w hSw
                    try dsimp only at hSw
                    go_simp
                    try with_reducible rfl
                  simp only [Act.put, List.setIfInBounds_toArray, List.set_cons_zero, List.set_cons_succ]
                  refine wpAnyH_takeD (i := 23) (v := ?_) (some 166) rfl (by rfl) (by kernel_rfl) (by kernel_rfl) (by kernel_rfl) (fun _ _ _ h => h) (Or.inl ⟨by rfl, ?_⟩) (by assumption) ?_
                  rotate_left
                  · intro w hSw
                    try dsimp only at hSw
                    go_simp
                    try with_reducible rfl
                  simp only [Act.put, List.setIfInBounds_toArray, List.set_cons_zero, List.set_cons_succ]
                  refine wpAnyH_takeD (i := 24) (v := ?_) (some 167) rfl (by rfl) (by kernel_rfl) (by kernel_rfl) (by kernel_rfl) (fun _ _ _ h => h) (Or.inl ⟨by rfl, ?_⟩) (by assumption) ?_
                  rotate_left
                  · intro w hSw
                    try dsimp only at hSw
                    go_simp
                    try with_reducible rfl
                  simp only [Act.put, List.setIfInBounds_toArray, List.set_cons_zero, List.set_cons_succ]
                  refine wpAnyH_takeD (i := 25) (v := ?_) (some 168) rfl (by rfl) (by kernel_rfl) (by kernel_rfl) (by kernel_rfl) (fun _ _ _ h => h) (Or.inl ⟨by rfl, ?_⟩) (by assumption) ?_
                  rotate_left
                  · intro w hSw
                    try dsimp only at hSw
                    go_simp
                    try with_reducible rfl
                  simp only [Act.put, List.setIfInBounds_toArray, List.set_cons_zero, List.set_cons_succ]
                  refine wpAnyH_takeD (i := 26) (v := ?_) (some 169) rfl (by rfl) (by kernel_rfl) (by kernel_rfl) (by kernel_rfl) (fun _ _ _ h => h) (Or.inl ⟨by rfl, ?_⟩) (by assumption) ?_
                  rotate_left
                  · intro w hSw
                    try dsimp only at hSw
                    go_simp
                    try with_reducible rfl
                  simp only [Act.put, List.setIfInBounds_toArray, List.set_cons_zero, List.set_cons_succ]
                  refine wpAnyH_takeD (i := 27) (v := ?_) (some 170) rfl (by rfl) (by kernel_rfl) (by kernel_rfl) (by kernel_rfl) (fun _ _ _ h => h) (Or.inl ⟨by rfl, ?_⟩) (by assumption) ?_
                  rotate_left
                  · intro w hSw
                    try dsimp only at hSw
                    go_simp
                    try with_reducible rfl
                  simp only [Act.put, List.setIfInBounds_toArray, List.set_cons_zero, List.set_cons_succ]
                  refine wpAnyH_takeD (i := 28) (v := ?_) (some 171) rfl (by rfl) (by kernel_rfl) (by kernel_rfl) (by kernel_rfl) (fun _ _ _ h => h) (Or.inl ⟨by rfl, ?_⟩) (by assumption) ?_
                  rotate_left
                  · intro w hSw
                    try dsimp only at hSw
                    go_simp
                    try with_reducible rfl
                  simp only [Act.put, List.setIfInBounds_toArray, List.set_cons_zero, List.set_cons_succ]
                  refine wpAnyH_ready (rs := [29]) (by kernel_rfl) (by simp) ?_
                  refine AllReadyH.cons rfl (fun K hK => ?_) AllReadyH.nil
                  go_simp
                  refine (H8d.out.sIs 0 rfl ((a : Int) / 64) (by omega) (by omega)).mono ?_
                  rintro e w9 ⟨rfl, rfl⟩
                  rw [HS.out.1]
                  have HX := hHeld
                  refine hK.out _ _ HX (fun _ => ?_)
                  clear hK K hHeld
                  have hHeld := HX
                  clear HX
                  try simp only [Act.put, List.setIfInBounds_toArray, List.set_cons_zero, List.set_cons_succ]
                  refine wpAnyH_takeD (i := 30) (v := ?_) (some 173) rfl (by rfl) (by kernel_rfl) (by kernel_rfl) (by kernel_rfl) (fun _ _ _ h => h) (Or.inl ⟨by rfl, ?_⟩) (by assumption) ?_
                  rotate_left
                  · intro w hSw
                    try dsimp only at hSw
                    go_simp
                    try with_reducible rfl
                  simp only [Act.put, List.setIfInBounds_toArray, List.set_cons_zero, List.set_cons_succ]
                  refine wpAnyH_takeD (i := 31) (v := ?_) (some 174) rfl (by rfl) (by kernel_rfl) (by kernel_rfl) (by kernel_rfl) (fun _ _ _ h => h) (Or.inl ⟨by rfl, ?_⟩) (by assumption) ?_
                  rotate_left
                  · intro w hSw
                    try dsimp only at hSw
                    go_simp
                    try with_reducible rfl
                  simp only [Act.put, List.setIfInBounds_toArray, List.set_cons_zero, List.set_cons_succ]
                  refine wpAnyH_takeD (i := 32) (v := ?_) (some 175) rfl (by rfl) (by kernel_rfl) (by kernel_rfl) (by kernel_rfl) (fun _ _ _ h => h) (Or.inl ⟨by rfl, ?_⟩) (by assumption) ?_
                  rotate_left
                  · intro w hSw
                    try dsimp only at hSw
                    go_simp
                    try with_reducible rfl
                  simp only [Act.put, List.setIfInBounds_toArray, List.set_cons_zero, List.set_cons_succ]
                  refine wpAnyH_takeD (i := 33) (v := ?_) (some 176) rfl (by rfl) (by kernel_rfl) (by kernel_rfl) (by kernel_rfl) (fun _ _ _ h => h) (Or.inl ⟨by rfl, ?_⟩) (by assumption) ?_
                  rotate_left
                  · intro w hSw
                    try dsimp only at hSw
                    go_simp
                    try with_reducible rfl
                  simp only [Act.put, List.setIfInBounds_toArray, List.set_cons_zero, List.set_cons_succ]
                  refine wpAnyH_takeD (i := 34) (v := ?_) (some 177) rfl (by rfl) (by kernel_rfl) (by kernel_rfl) (by kernel_rfl) (fun _ _ _ h => h) (Or.inl ⟨by rfl, ?_⟩) (by assumption) ?_
                  rotate_left
                  · intro w hSw
                    try dsimp only at hSw
                    go_simp
                    try with_reducible rfl
                  simp only [Act.put, List.setIfInBounds_toArray, List.set_cons_zero, List.set_cons_succ]
                  refine wpAnyH_takeD (i := 35) (v := ?_) (some 178) rfl (by rfl) (by kernel_rfl) (by kernel_rfl) (by kernel_rfl) (fun _ _ _ h => h) (Or.inl ⟨by rfl, ?_⟩) (by assumption) ?_
                  rotate_left
                  · intro w hSw
                    try dsimp only at hSw
                    go_simp
                    try with_reducible rfl
                  simp only [Act.put, List.setIfInBounds_toArray, List.set_cons_zero, List.set_cons_succ]
                  refine wpAnyH_takeD (i := 36) (v := ?_) (some 179) rfl (by rfl) (by kernel_rfl) (by kernel_rfl) (by kernel_rfl) (fun _ _ _ h => h) (Or.inl ⟨by rfl, ?_⟩) (by assumption) ?_
                  rotate_left
                  · intro w hSw
                    try dsimp only at hSw
                    go_simp
                    try with_reducible rfl
                  simp only [Act.put, List.setIfInBounds_toArray, List.set_cons_zero, List.set_cons_succ]
                  refine wpAnyH_takeD (i := 37) (v := ?_) (some 180) rfl (by rfl) (by kernel_rfl) (by kernel_rfl) (by kernel_rfl) (fun _ _ _ h => h) (Or.inl ⟨by rfl, ?_⟩) (by assumption) ?_
                  rotate_left
                  · intro w hSw
                    try dsimp only at hSw
                    go_simp
                    try with_reducible rfl
                  simp only [Act.put, List.setIfInBounds_toArray, List.set_cons_zero, List.set_cons_succ]
                  refine wpAnyH_takeD (i := 38) (v := ?_) (some 181) rfl (by rfl) (by kernel_rfl) (by kernel_rfl) (by kernel_rfl) (fun _ _ _ h => h) (Or.inl ⟨by rfl, ?_⟩) (by assumption) ?_
                  rotate_left
                  · intro w hSw
                    try dsimp only at hSw
                    go_simp
                    try with_reducible rfl
                  simp only [Act.put, List.setIfInBounds_toArray, List.set_cons_zero, List.set_cons_succ]
                  refine wpAnyH_takeD (i := 39) (v := ?_) (some 182) rfl (by rfl) (by kernel_rfl) (by kernel_rfl) (by kernel_rfl) (fun _ _ _ h => h) (Or.inl ⟨by rfl, ?_⟩) (by assumption) ?_
                  rotate_left
                  · intro w hSw
                    try dsimp only at hSw
                    go_simp
                    try with_reducible rfl
                  simp only [Act.put, List.setIfInBounds_toArray, List.set_cons_zero, List.set_cons_succ]
                  refine wpAnyH_takeD (i := 40) (v := ?_) (some 183) rfl (by rfl) (by kernel_rfl) (by kernel_rfl) (by kernel_rfl) (fun _ _ _ h => h) (Or.inl ⟨by rfl, ?_⟩) (by assumption) ?_
                  rotate_left
                  · intro w hSw
                    try dsimp only at hSw
                    go_simp
                    try with_reducible rfl
                  simp only [Act.put, List.setIfInBounds_toArray, List.set_cons_zero, List.set_cons_succ]
                  refine wpAnyH_takeD (i := 41) (v := ?_) (some 184) rfl (by rfl) (by kernel_rfl) (by kernel_rfl) (by kernel_rfl) (fun _ _ _ h => h) (Or.inl ⟨by rfl, ?_⟩) (by assumption) ?_
                  rotate_left
                  · intro w hSw
                    try dsimp only at hSw
                    go_simp
                    try with_reducible rfl
                  simp only [Act.put, List.setIfInBounds_toArray, List.set_cons_zero, List.set_cons_succ]
                  refine wpAnyH_ready (rs := [42]) (by kernel_rfl) (by simp) ?_
                  refine AllReadyH.cons rfl (fun K hK => ?_) AllReadyH.nil
                  go_simp
                  refine (H8d.out.sIs 0 rfl (((a : Int) + r - 1) / 64) (by omega) (by omega)).mono ?_
                  rintro e w10 ⟨rfl, rfl⟩
                  rw [HS.out.2]
                  have HX := hHeld
                  refine hK.out _ _ HX (fun _ => ?_)
                  clear hK K hHeld
                  have hHeld := HX
                  clear HX
                  try simp only [Act.put, List.setIfInBounds_toArray, List.set_cons_zero, List.set_cons_succ]
                  refine wpAnyH_takeD (i := 43) (v := ?_) (some 186) rfl (by rfl) (by kernel_rfl) (by kernel_rfl) (by kernel_rfl) (fun _ _ _ h => h) (Or.inl ⟨by rfl, ?_⟩) (by assumption) ?_
                  rotate_left
                  · intro w hSw
                    try dsimp only at hSw
                    go_simp
                    try with_reducible rfl
                  simp only [Act.put, List.setIfInBounds_toArray, List.set_cons_zero, List.set_cons_succ]
                  refine wpAnyH_takeD (i := 44) (v := ?_) (some 187) rfl (by rfl) (by kernel_rfl) (by kernel_rfl) (by kernel_rfl) (fun _ _ _ h => h) (Or.inl ⟨by rfl, ?_⟩) (by assumption) ?_
                  rotate_left
                  · intro w hSw
                    try dsimp only at hSw
                    go_simp
                    try with_reducible rfl
                  simp only [Act.put, List.setIfInBounds_toArray, List.set_cons_zero, List.set_cons_succ]
                  refine wpAnyH_done (by kernel_rfl) ?_ _
                  clear hHeld
                  go_wp2
                  go_roundw
                  case rel => exact ⟨0 + 1, by go_num, by omega, H8d.out⟩
                  case measure => (simp [RowKit.intOf]; try omega)
                · obtain ⟨y, hy⟩ : ∃ y, y + 1 = x := ⟨x - 1, by omega⟩
                  have hyl : y < (blks H).length := by omega
                  obtain ⟨⟨a2, r2⟩, hbk2⟩ : ∃ bk, (blks H)[y]? = some bk := ⟨_, List.getElem?_eq_getElem hyl⟩
                  have hpr := List.pairwise_iff_getElem.1 HRp.out.pair y x hyl hxl (by omega)
                  have hrg2 := HRp.out.blk_range (List.mem_of_getElem? hbk2)
                  rw [(List.getElem?_eq_some_iff.1 hbk2).2, (List.getElem?_eq_some_iff.1 hbk).2] at hpr
                  dsimp only at hpr hrg2
                  have hla2 : S.live[y]? = some (a2 : Int) := by rw [HLv, List.getElem?_map, hbk2]; rfl
                  obtain ⟨gl', hgl', c8, _⟩ := cl8
                  simp only [Option.some.injEq, Addr.mk.injEq] at hgl'
                  obtain ⟨rfl, _⟩ := hgl'
                  obtain ⟨gl2, hgl2, c9, _⟩ := (H8d.out.item 2 rfl (o := y) (x := .int .i64 (a2 : Int)) (by rw [List.getElem?_map, hla2]; rfl))
                  simp only [Option.some.injEq, Addr.mk.injEq] at hgl2
                  obtain ⟨rfl, _⟩ := hgl2
                  have ey : IntKind.i64.wrap ((x : Int) - 1) = (y : Int) := by rw [IntKind.wrap_i64]; omega
                  have ed : decide ((a : Int) ≤ (a2 : Int)) = false := leF (by omega)
                  have ed2 : decide (a ≤ a2) = false := decide_eq_false (by omega)
                  have ex : decide ((0 : Int) < (x : Int)) = true := ltT (by omega)
                  have ex2 : decide (0 < x) = true := decide_eq_true (by omega)
                  have hyll : y < ll := by omega
                  have HY := Lib.hid hy
                  clear hx0 hy hpr hrg2 hyl hbk2 hla2
                  refine wp_region_held_drew (S := fun w' => w'.cell? ⟨gl, x, none⟩ = some (.int .i64 (a : Int)) ∧ w'.cell? ⟨gl, y, none⟩ = some (.int .i64 (a2 : Int))) (by kernel_rfl) ⟨c8, c9⟩ (fun hHeld => ?_)
                  refine wpAnyH_takeD (i := 0) (v := ?_) (some 143) rfl (by rfl) (by kernel_rfl) (by kernel_rfl) (by kernel_rfl) (fun _ _ _ h => h) (Or.inl ⟨by rfl, ?_⟩) (by assumption) ?_
                  rotate_left
                  · intro w hSw
                    try dsimp only at hSw
                    go_simp
                    try with_reducible rfl
                  simp only [Act.put, List.setIfInBounds_toArray, List.set_cons_zero, List.set_cons_succ]
                  refine wpAnyH_takeD (i := 1) (v := ?_) (some 144) rfl (by rfl) (by kernel_rfl) (by kernel_rfl) (by kernel_rfl) (fun _ _ _ h => h) (Or.inl ⟨by rfl, ?_⟩) (by assumption) ?_
                  rotate_left
                  · intro w hSw
                    try dsimp only at hSw
                    go_simp
                    try with_reducible rfl
                  simp only [Act.put, List.setIfInBounds_toArray, List.set_cons_zero, List.set_cons_succ]
                  refine wpAnyH_takeD (i := 2) (v := ?_) (some 145) rfl (by rfl) (by kernel_rfl) (by kernel_rfl) (by kernel_rfl) (fun _ _ _ h => h) (Or.inl ⟨by rfl, ?_⟩) (by assumption) ?_
                  rotate_left
                  · intro w hSw
                    try dsimp only at hSw
                    go_simp
                    try with_reducible rfl
                  simp only [Act.put, List.setIfInBounds_toArray, List.set_cons_zero, List.set_cons_succ]
                  refine wpAnyH_takeD (i := 3) (v := ?_) (some 146) rfl (by rfl) (by kernel_rfl) (by kernel_rfl) (by kernel_rfl) (fun _ _ _ h => h) (Or.inl ⟨by rfl, ?_⟩) (by assumption) ?_
                  rotate_left
                  · intro w hSw
                    try dsimp only at hSw
                    go_simp
                    try with_reducible rfl
                  simp only [Act.put, List.setIfInBounds_toArray, List.set_cons_zero, List.set_cons_succ]
                  refine wpAnyH_takeD (i := 4) (v := ?_) (some 147) rfl (by rfl) (by kernel_rfl) (by kernel_rfl) (by kernel_rfl) (fun _ _ _ h => h) (Or.inl ⟨by rfl, ?_⟩) (by assumption) ?_
                  rotate_left
                  · intro w hSw
                    try dsimp only at hSw
                    go_simp
                    try with_reducible rfl
                  simp only [Act.put, List.setIfInBounds_toArray, List.set_cons_zero, List.set_cons_succ]
                  refine wpAnyH_takeD (i := 5) (v := ?_) (some 148) rfl (by rfl) (by kernel_rfl) (by kernel_rfl) (by kernel_rfl) (fun _ _ _ h => h) (Or.inl ⟨by rfl, ?_⟩) (by assumption) ?_
                  rotate_left
                  · intro w hSw
                    try dsimp only at hSw
                    go_simp
                    try with_reducible rfl
                  simp only [Act.put, List.setIfInBounds_toArray, List.set_cons_zero, List.set_cons_succ]
                  refine wpAnyH_takeD (i := 6) (v := ?_) (some 149) rfl (by rfl) (by kernel_rfl) (by kernel_rfl) (by kernel_rfl) (fun _ _ _ h => h) (Or.inl ⟨by rfl, ?_⟩) (by assumption) ?_
                  rotate_left
                  · intro w hSw
                    try dsimp only at hSw
                    go_simp
                    try with_reducible rfl
                  simp only [Act.put, List.setIfInBounds_toArray, List.set_cons_zero, List.set_cons_succ]
                  refine wpAnyH_takeD (i := 7) (v := ?_) (some 150) rfl (by rfl) (by kernel_rfl) (by kernel_rfl) (by kernel_rfl) (fun _ _ _ h => h) (Or.inl ⟨by rfl, ?_⟩) (by assumption) ?_
                  rotate_left
                  · intro w hSw
                    try dsimp only at hSw
                    go_simp
                    try with_reducible rfl
                  simp only [Act.put, List.setIfInBounds_toArray, List.set_cons_zero, List.set_cons_succ]
                  refine wpAnyH_takeD (i := 8) (v := ?_) (some 151) rfl (by rfl) (by kernel_rfl) (by kernel_rfl) (by kernel_rfl) (fun _ _ _ h => h) (Or.inl ⟨by rfl, ?_⟩) (by assumption) ?_
                  rotate_left
                  · intro w hSw
                    try dsimp only at hSw
                    go_simp
                    try with_reducible rfl
                  simp only [Act.put, List.setIfInBounds_toArray, List.set_cons_zero, List.set_cons_succ]
                  refine wpAnyH_takeD (i := 9) (v := ?_) (some 152) rfl (by rfl) (by kernel_rfl) (by kernel_rfl) (by kernel_rfl) (fun _ _ _ h => h) (Or.inl ⟨by rfl, ?_⟩) (by assumption) ?_
                  rotate_left
                  · intro w hSw
                    try dsimp only at hSw
                    go_simp
                    try with_reducible rfl
                  simp only [Act.put, List.setIfInBounds_toArray, List.set_cons_zero, List.set_cons_succ]
                  refine wpAnyH_takeD (i := 10) (v := ?_) (some 153) rfl (by rfl) (by kernel_rfl) (by kernel_rfl) (by kernel_rfl) (fun _ _ _ h => h) (Or.inl ⟨by rfl, ?_⟩) (by assumption) ?_
                  rotate_left
                  · intro w hSw
                    try dsimp only at hSw
                    go_simp
                    try with_reducible rfl
                  simp only [Act.put, List.setIfInBounds_toArray, List.set_cons_zero, List.set_cons_succ]
                  refine wpAnyH_takeD (i := 11) (v := ?_) (some 154) rfl (by rfl) (by kernel_rfl) (by kernel_rfl) (by kernel_rfl) (fun _ _ _ h => h) (Or.inl ⟨by rfl, ?_⟩) (by assumption) ?_
                  rotate_left
                  · intro w hSw
                    try dsimp only at hSw
                    go_simp
                    try with_reducible rfl
                  simp only [Act.put, List.setIfInBounds_toArray, List.set_cons_zero, List.set_cons_succ]
                  refine wpAnyH_takeD (i := 12) (v := ?_) (some 155) rfl (by rfl) (by kernel_rfl) (by kernel_rfl) (by kernel_rfl) (fun _ _ _ h => h) (Or.inl ⟨by rfl, ?_⟩) (by assumption) ?_
                  rotate_left
                  · intro w hSw
                    try dsimp only at hSw
                    go_simp
                    try with_reducible rfl
                  simp only [Act.put, List.setIfInBounds_toArray, List.set_cons_zero, List.set_cons_succ]
                  refine wpAnyH_takeD (i := 13) (v := ?_) (some 156) rfl (by rfl) (by kernel_rfl) (by kernel_rfl) (by kernel_rfl) (fun _ _ _ h => h) (Or.inl ⟨by rfl, ?_⟩) (by assumption) ?_
                  rotate_left
                  · intro w hSw
                    try dsimp only at hSw
                    go_simp
                    try with_reducible rfl
                  simp only [Act.put, List.setIfInBounds_toArray, List.set_cons_zero, List.set_cons_succ]
                  refine wpAnyH_takeD (i := 14) (v := ?_) (some 157) rfl (by rfl) (by kernel_rfl) (by kernel_rfl) (by kernel_rfl) (fun _ _ _ h => h) (Or.inl ⟨by rfl, ?_⟩) (by assumption) ?_
                  rotate_left
                  · intro w hSw
                    try dsimp only at hSw
                    go_simp
                    try with_reducible rfl
                  simp only [Act.put, List.setIfInBounds_toArray, List.set_cons_zero, List.set_cons_succ]
                  refine wpAnyH_takeD (i := 15) (v := ?_) (some 158) rfl (by rfl) (by kernel_rfl) (by kernel_rfl) (by kernel_rfl) (fun _ _ _ h => h) (Or.inl ⟨by rfl, ?_⟩) (by assumption) ?_
                  rotate_left
                  · intro w hSw
                    try dsimp only at hSw
                    go_simp
                    try with_reducible rfl
                  simp only [Act.put, List.setIfInBounds_toArray, List.set_cons_zero, List.set_cons_succ]
                  refine wpAnyH_takeD (i := 16) (v := ?_) (some 159) rfl (by rfl) (by kernel_rfl) (by kernel_rfl) (by kernel_rfl) (fun _ _ _ h => h) (Or.inl ⟨by rfl, ?_⟩) (by assumption) ?_
                  rotate_left
                  · intro w hSw
                    try dsimp only at hSw
                    go_simp
                    try with_reducible rfl
                  simp only [Act.put, List.setIfInBounds_toArray, List.set_cons_zero, List.set_cons_succ]
                  refine wpAnyH_takeD (i := 17) (v := ?_) (some 160) rfl (by rfl) (by kernel_rfl) (by kernel_rfl) (by kernel_rfl) (fun _ _ _ h => h) (Or.inl ⟨by rfl, ?_⟩) (by assumption) ?_
                  rotate_left
                  · intro w hSw
                    try dsimp only at hSw
                    go_simp
                    try with_reducible rfl
                  simp only [Act.put, List.setIfInBounds_toArray, List.set_cons_zero, List.set_cons_succ]
                  refine wpAnyH_takeD (i := 18) (v := ?_) (some 161) rfl (by rfl) (by kernel_rfl) (by kernel_rfl) (by kernel_rfl) (fun _ _ _ h => h) (Or.inl ⟨by rfl, ?_⟩) (by assumption) ?_
                  rotate_left
                  · intro w hSw
                    try dsimp only at hSw
                    go_simp
                    try with_reducible rfl
                  simp only [Act.put, List.setIfInBounds_toArray, List.set_cons_zero, List.set_cons_succ]
                  refine wpAnyH_takeD (i := 19) (v := ?_) (some 162) rfl (by rfl) (by kernel_rfl) (by kernel_rfl) (by kernel_rfl) (fun _ _ _ h => h) (Or.inl ⟨by rfl, ?_⟩) (by assumption) ?_
                  rotate_left
                  · intro w hSw
                    try dsimp only at hSw
                    go_simp
                    try with_reducible rfl
                  simp only [Act.put, List.setIfInBounds_toArray, List.set_cons_zero, List.set_cons_succ]
                  refine wpAnyH_takeD (i := 20) (v := ?_) (some 163) rfl (by rfl) (by kernel_rfl) (by kernel_rfl) (by kernel_rfl) (fun _ _ _ h => h) (Or.inl ⟨by rfl, ?_⟩) (by assumption) ?_
                  rotate_left
                  · intro w hSw
                    try dsimp only at hSw
                    go_simp
                    try with_reducible rfl
                  simp only [Act.put, List.setIfInBounds_toArray, List.set_cons_zero, List.set_cons_succ]
                  refine wpAnyH_takeD (i := 21) (v := ?_) (some 164) rfl (by rfl) (by kernel_rfl) (by kernel_rfl) (by kernel_rfl) (fun _ _ _ h => h) (Or.inl ⟨by rfl, ?_⟩) (by assumption) ?_
                  rotate_left
                  · intro w hSw
                    try dsimp only at hSw
                    go_simp
                    try with_reducible rfl
                  simp only [Act.put, List.setIfInBounds_toArray, List.set_cons_zero, List.set_cons_succ]
                  refine wpAnyH_takeD (i := 22) (v := ?_) (some 165) rfl (by rfl) (by kernel_rfl) (by kernel_rfl) (by kernel_rfl) (fun _ _ _ h => h) (Or.inl ⟨by rfl, ?_⟩) (by assumption) ?_
                  rotate_left
                  · intro w hSw
                    try dsimp only at hSw
                    go_simp
                    try with_reducible rfl
                  simp only [Act.put, List.setIfInBounds_toArray, List.set_cons_zero, List.set_cons_succ]
                  refine wpAnyH_takeD (i := 23) (v := ?_) (some 166) rfl (by rfl) (by kernel_rfl) (by kernel_rfl) (by kernel_rfl) (fun _ _ _ h => h) (Or.inl ⟨by rfl, ?_⟩) (by assumption) ?_
                  rotate_left
                  · intro w hSw
                    try dsimp only at hSw
                    go_simp
                    try with_reducible rfl
                  simp only [Act.put, List.setIfInBounds_toArray, List.set_cons_zero, List.set_cons_succ]
                  refine wpAnyH_takeD (i := 24) (v := ?_) (some 167) rfl (by rfl) (by kernel_rfl) (by kernel_rfl) (by kernel_rfl) (fun _ _ _ h => h) (Or.inl ⟨by rfl, ?_⟩) (by assumption) ?_
                  rotate_left
                  · intro w hSw
                    try dsimp only at hSw
                    go_simp
                    try with_reducible rfl
                  simp only [Act.put, List.setIfInBounds_toArray, List.set_cons_zero, List.set_cons_succ]
                  refine wpAnyH_takeD (i := 25) (v := ?_) (some 168) rfl (by rfl) (by kernel_rfl) (by kernel_rfl) (by kernel_rfl) (fun _ _ _ h => h) (Or.inl ⟨by rfl, ?_⟩) (by assumption) ?_
                  rotate_left
                  · intro w hSw
                    try dsimp only at hSw
                    go_simp
                    try with_reducible rfl
                  simp only [Act.put, List.setIfInBounds_toArray, List.set_cons_zero, List.set_cons_succ]
                  refine wpAnyH_takeD (i := 26) (v := ?_) (some 169) rfl (by rfl) (by kernel_rfl) (by kernel_rfl) (by kernel_rfl) (fun _ _ _ h => h) (Or.inl ⟨by rfl, ?_⟩) (by assumption) ?_
                  rotate_left
                  · intro w hSw
                    try dsimp only at hSw
                    go_simp
                    try with_reducible rfl
                  simp only [Act.put, List.setIfInBounds_toArray, List.set_cons_zero, List.set_cons_succ]
                  refine wpAnyH_takeD (i := 27) (v := ?_) (some 170) rfl (by rfl) (by kernel_rfl) (by kernel_rfl) (by kernel_rfl) (fun _ _ _ h => h) (Or.inl ⟨by rfl, ?_⟩) (by assumption) ?_
                  rotate_left
                  · intro w hSw
                    try dsimp only at hSw
                    go_simp
                    try with_reducible rfl
                  simp only [Act.put, List.setIfInBounds_toArray, List.set_cons_zero, List.set_cons_succ]
                  refine wpAnyH_takeD (i := 28) (v := ?_) (some 171) rfl (by rfl) (by kernel_rfl) (by kernel_rfl) (by kernel_rfl) (fun _ _ _ h => h) (Or.inl ⟨by rfl, ?_⟩) (by assumption) ?_
                  rotate_left
                  · intro w hSw
                    try dsimp only at hSw
                    go_simp
                    try with_reducible rfl
                  simp only [Act.put, List.setIfInBounds_toArray, List.set_cons_zero, List.set_cons_succ]
                  refine wpAnyH_ready (rs := [29]) (by kernel_rfl) (by simp) ?_
                  refine AllReadyH.cons rfl (fun K hK => ?_) AllReadyH.nil
                  go_simp
                  refine (H8d.out.sIs 0 rfl ((a : Int) / 64) (by omega) (by omega)).mono ?_
                  rintro e w9 ⟨rfl, rfl⟩
                  rw [HS.out.1]
                  have HX := hHeld
                  refine hK.out _ _ HX (fun _ => ?_)
                  clear hK K hHeld
                  have hHeld := HX
                  clear HX
                  try simp only [Act.put, List.setIfInBounds_toArray, List.set_cons_zero, List.set_cons_succ]
                  refine wpAnyH_takeD (i := 30) (v := ?_) (some 173) rfl (by rfl) (by kernel_rfl) (by kernel_rfl) (by kernel_rfl) (fun _ _ _ h => h) (Or.inl ⟨by rfl, ?_⟩) (by assumption) ?_
                  rotate_left
                  · intro w hSw
                    try dsimp only at hSw
                    go_simp
                    try with_reducible rfl
                  simp only [Act.put, List.setIfInBounds_toArray, List.set_cons_zero, List.set_cons_succ]
                  refine wpAnyH_takeD (i := 31) (v := ?_) (some 174) rfl (by rfl) (by kernel_rfl) (by kernel_rfl) (by kernel_rfl) (fun _ _ _ h => h) (Or.inl ⟨by rfl, ?_⟩) (by assumption) ?_
                  rotate_left
                  · intro w hSw
                    try dsimp only at hSw
                    go_simp
                    try with_reducible rfl
                  simp only [Act.put, List.setIfInBounds_toArray, List.set_cons_zero, List.set_cons_succ]
                  refine wpAnyH_takeD (i := 32) (v := ?_) (some 175) rfl (by rfl) (by kernel_rfl) (by kernel_rfl) (by kernel_rfl) (fun _ _ _ h => h) (Or.inl ⟨by rfl, ?_⟩) (by assumption) ?_
                  rotate_left
                  · intro w hSw
                    try dsimp only at hSw
                    go_simp
                    try with_reducible rfl
                  simp only [Act.put, List.setIfInBounds_toArray, List.set_cons_zero, List.set_cons_succ]
                  refine wpAnyH_takeD (i := 33) (v := ?_) (some 176) rfl (by rfl) (by kernel_rfl) (by kernel_rfl) (by kernel_rfl) (fun _ _ _ h => h) (Or.inl ⟨by rfl, ?_⟩) (by assumption) ?_
                  rotate_left
                  · intro w hSw
                    try dsimp only at hSw
                    go_simp
                    try with_reducible rfl
                  simp only [Act.put, List.setIfInBounds_toArray, List.set_cons_zero, List.set_cons_succ]
                  refine wpAnyH_takeD (i := 34) (v := ?_) (some 177) rfl (by rfl) (by kernel_rfl) (by kernel_rfl) (by kernel_rfl) (fun _ _ _ h => h) (Or.inl ⟨by rfl, ?_⟩) (by assumption) ?_
                  rotate_left
                  · intro w hSw
                    try dsimp only at hSw
                    go_simp
                    try with_reducible rfl
                  simp only [Act.put, List.setIfInBounds_toArray, List.set_cons_zero, List.set_cons_succ]
                  refine wpAnyH_takeD (i := 35) (v := ?_) (some 178) rfl (by rfl) (by kernel_rfl) (by kernel_rfl) (by kernel_rfl) (fun _ _ _ h => h) (Or.inl ⟨by rfl, ?_⟩) (by assumption) ?_
                  rotate_left
                  · intro w hSw
                    try dsimp only at hSw
                    go_simp
                    try with_reducible rfl
                  simp only [Act.put, List.setIfInBounds_toArray, List.set_cons_zero, List.set_cons_succ]
                  refine wpAnyH_takeD (i := 36) (v := ?_) (some 179) rfl (by rfl) (by kernel_rfl) (by kernel_rfl) (by kernel_rfl) (fun _ _ _ h => h) (Or.inl ⟨by rfl, ?_⟩) (by assumption) ?_
                  rotate_left
                  · intro w hSw
                    try dsimp only at hSw
                    go_simp
                    try with_reducible rfl
                  simp only [Act.put, List.setIfInBounds_toArray, List.set_cons_zero, List.set_cons_succ]
                  refine wpAnyH_takeD (i := 37) (v := ?_) (some 180) rfl (by rfl) (by kernel_rfl) (by kernel_rfl) (by kernel_rfl) (fun _ _ _ h => h) (Or.inl ⟨by rfl, ?_⟩) (by assumption) ?_
                  rotate_left
                  · intro w hSw
                    try dsimp only at hSw
                    go_simp
                    try with_reducible rfl
                  simp only [Act.put, List.setIfInBounds_toArray, List.set_cons_zero, List.set_cons_succ]
                  refine wpAnyH_takeD (i := 38) (v := ?_) (some 181) rfl (by rfl) (by kernel_rfl) (by kernel_rfl) (by kernel_rfl) (fun _ _ _ h => h) (Or.inl ⟨by rfl, ?_⟩) (by assumption) ?_
                  rotate_left
                  · intro w hSw
                    try dsimp only at hSw
                    go_simp
                    try with_reducible rfl
                  simp only [Act.put, List.setIfInBounds_toArray, List.set_cons_zero, List.set_cons_succ]
                  refine wpAnyH_takeD (i := 39) (v := ?_) (some 182) rfl (by rfl) (by kernel_rfl) (by kernel_rfl) (by kernel_rfl) (fun _ _ _ h => h) (Or.inl ⟨by rfl, ?_⟩) (by assumption) ?_
                  rotate_left
                  · intro w hSw
                    try dsimp only at hSw
                    go_simp
                    try with_reducible rfl
                  simp only [Act.put, List.setIfInBounds_toArray, List.set_cons_zero, List.set_cons_succ]
                  refine wpAnyH_takeD (i := 40) (v := ?_) (some 183) rfl (by rfl) (by kernel_rfl) (by kernel_rfl) (by kernel_rfl) (fun _ _ _ h => h) (Or.inl ⟨by rfl, ?_⟩) (by assumption) ?_
                  rotate_left
                  · intro w hSw
                    try dsimp only at hSw
                    go_simp
                    try with_reducible rfl
                  simp only [Act.put, List.setIfInBounds_toArray, List.set_cons_zero, List.set_cons_succ]
                  refine wpAnyH_takeD (i := 41) (v := ?_) (some 184) rfl (by rfl) (by kernel_rfl) (by kernel_rfl) (by kernel_rfl) (fun _ _ _ h => h) (Or.inl ⟨by rfl, ?_⟩) (by assumption) ?_
                  rotate_left
                  · intro w hSw
                    try dsimp only at hSw
                    go_simp
                    try with_reducible rfl
                  simp only [Act.put, List.setIfInBounds_toArray, List.set_cons_zero, List.set_cons_succ]
                  refine wpAnyH_ready (rs := [42]) (by kernel_rfl) (by simp) ?_
                  refine AllReadyH.cons rfl (fun K hK => ?_) AllReadyH.nil
                  go_simp
                  refine (H8d.out.sIs 0 rfl (((a : Int) + r - 1) / 64) (by omega) (by omega)).mono ?_
                  rintro e w10 ⟨rfl, rfl⟩
                  rw [HS.out.2]
                  have HX := hHeld
                  refine hK.out _ _ HX (fun _ => ?_)
                  clear hK K hHeld
                  have hHeld := HX
                  clear HX
                  try simp only [Act.put, List.setIfInBounds_toArray, List.set_cons_zero, List.set_cons_succ]
                  refine wpAnyH_takeD (i := 43) (v := ?_) (some 186) rfl (by rfl) (by kernel_rfl) (by kernel_rfl) (by kernel_rfl) (fun _ _ _ h => h) (Or.inl ⟨by rfl, ?_⟩) (by assumption) ?_
                  rotate_left
                  · intro w hSw
                    try dsimp only at hSw
                    go_simp
                    try with_reducible rfl
                  simp only [Act.put, List.setIfInBounds_toArray, List.set_cons_zero, List.set_cons_succ]
                  refine wpAnyH_takeD (i := 44) (v := ?_) (some 187) rfl (by rfl) (by kernel_rfl) (by kernel_rfl) (by kernel_rfl) (fun _ _ _ h => h) (Or.inl ⟨by rfl, ?_⟩) (by assumption) ?_
                  rotate_left
                  · intro w hSw
                    try dsimp only at hSw
                    go_simp
                    try with_reducible rfl
                  simp only [Act.put, List.setIfInBounds_toArray, List.set_cons_zero, List.set_cons_succ]
                  refine wpAnyH_done (by kernel_rfl) ?_ _
                  clear hHeld
                  go_wp2
                  go_roundw
                  case rel => exact ⟨x + 1, by go_num, by omega, H8d.out⟩
                  case measure => (simp [RowKit.intOf]; try omega)
              · obtain rfl : x = ll := by omega
                have HB : Hid (Sep No w wr []) := h.left (Ps := [])
                clear h hlt
                go_wp2_with fail
                refine (made_call HB.out 4000 (by omega) (by omega)).mono ?_
                rintro e wm ⟨s', hb, rfl, g1⟩
                have G1 : Hid (Sep No w wm [slabR s' (Slb.empty 4000), hpAt hb s']) := g1
                clear g1 HB
                go_wp2_with fail
                obtain ⟨b, hbb⟩ : ∃ x, wm.heap.size = x := ⟨_, rfl⟩
                have h3 : Sep No w (wm.alloc (.cells #[.int .i64 4000, .slice none 0 0] 46)) [slabR s' (Slb.empty 4000), hpAt hb s', cellsAt wm.heap.size #[.int .i64 4000, .slice none 0 0] 46, pgRow (.slice none 0 0) []] := (G1.out.pushCells _ _).pushNil _ _
                obtain ⟨W, hW⟩ : ∃ x, wm.alloc (.cells #[.int .i64 4000, .slice none 0 0] 46) = x := ⟨_, rfl⟩
                rw [hW, hbb] at h3
                rw [hW, hbb]
                have HX : Hid (PlRel w 4000 hb s' b W) := ⟨Slb.empty 4000, [], [], rfl, Slb.Rep.empty (by omega) (by omega), ⟨rfl, fun P hP => by cases hP⟩, rh_new h3⟩
                clear h3 hW hbb G1
                go_loopw [21] (fun i wr => ∃ j : Nat, i = .int .i64 j ∧ j ≤ len2 ∧ PlRel w 4000 hb s' b wr) (fun i _ => len2 - (RowKit.intOf i).toNat)
                case atStart => exact ⟨0, rfl, Nat.zero_le _, HX.out⟩
                case round =>
                  obtain ⟨y, rfl, hy, S, H, L, hSq, hR, hK, h⟩ := hrel
                  clear HX
                  by_cases hlt : y < len2
                  · obtain ⟨b2, o2, rfl, hbk, hc⟩ := HR2.out.cells (by omega)
                    have hzj : z2[y]? = some (z2[y]'(by rw [HR2.out.count]; exact hlt)) := List.getElem?_eq_getElem _
                    obtain ⟨hrl, hro⟩ := HR2.out.ok _ (List.mem_of_getElem? hzj)
                    generalize z2[y]'(by rw [HR2.out.count]; exact hlt) = r at *
                    match r, hrl with
                    | [d, n], _ =>
                    have c0 := h.old (hc y _ hzj 0 _ d rfl rfl)
                    have c1 := h.old (hc y _ hzj 1 _ n rfl rfl)
                    have hn := bounds_i64 (hro 1 _ n rfl rfl)
                    simp only [List.length_cons, List.length_nil, Nat.add_zero, Nat.zero_add, Nat.reduceAdd, fv] at c0 c1
                    have hldO : Hid (wr.rangeAt b2 (o2 + y * 2) [.int .i64 d, .int .i64 n]) := fun jj u hu => by
                      match jj, hu with
                      | 0, hu => cases hu; exact c0
                      | 1, hu => cases hu; exact c1
                      | jj + 2, hu => cases hu
                    have hx := play_call h HT.out hR hK d n (by omega) (by omega)
                    have HQ := Lib.hid hSq
                    clear hc hzj hro hbk h hR hK hSq
                    go_wp2_with (first | (refine wpList_load_mid_g (by rfl) 50 _ (by rfl) b2 (o2 + y * 2) (by rfl) [.int .i64 d, .int .i64 n] _ hldO.out Tryd.underlying50 rfl op_size ?_))
                    refine hx.mono ?_
                    rintro e w8 ⟨rfl, S1, H1, L1, h8, R1, K1, q1⟩
                    have HG : Hid (PlRel w 4000 hb s' b w8) := ⟨S1, H1, L1, q1.trans HQ.out, R1, K1, h8⟩
                    clear hx h8 R1 K1 q1 c0 c1 hldO
                    go_wp2
                    go_roundw
                    case rel => exact ⟨y + 1, by go_num, by omega, HG.out⟩
                    case measure => (simp [RowKit.intOf]; try omega)
                  · obtain rfl : y = len2 := by omega
                    have hnc := h.hNew 1 rfl hR.audit
                    have HLL : Hid (S.live.length ≤ 1000000) := by rw [← hK.live hR]; exact hK.live_len hR
                    clear hlt hR hK hSq h
                    go_wp2_with fail
                    refine hnc.mono ?_
                    rintro e w8 ⟨rfl, h8⟩
                    have H8 := Lib.hid h8
                    clear hnc h8
                    obtain ⟨hp2, hhp⟩ : ∃ x, wr.heap.size = x := ⟨_, rfl⟩
                    rw [hhp] at H8 ⊢
                    clear hhp
                    go_wp2_with fail
                    refine (H8.out.hLive 3 1 rfl rfl).mono ?_
                    rintro e w9 ⟨v9, rfl, h9⟩
                    obtain ⟨sa9, cap9, rfl⟩ := h9.form 4 rfl
                    obtain ⟨ll, hll⟩ : ∃ ll, S.live.length = ll := ⟨_, rfl⟩
                    have HL9 := Lib.hid hll
                    have H9 := Lib.hid h9
                    rw [hll]
                    clear h9 hll
                    go_wp2_with fail
                    refine (H9.out.hLive 0 1 rfl rfl).mono ?_
                    rintro e w10 ⟨v10, rfl, h10⟩
                    obtain ⟨sa10, cap10, rfl⟩ := h10.form 5 rfl
                    have H10 := Lib.hid h10
                    rw [HL9.out]
                    clear h10
                    go_wp2_with fail
                    refine (rsameL (xs := S.live) (ys := S.live) HL9.out rfl (by have := H10.out.row 4 rfl; rw [HL9.out] at this ⊢; exact this) (by have := H10.out.row 5 rfl; rw [HL9.out] at this ⊢; exact this) (by rw [← HL9.out]; exact HLL.out)).mono ?_
                    rintro e w11 ⟨rfl, hm11⟩
                    have H11 := Lib.hid (H10.out.more hm11)
                    clear hm11
                    go_wp2_with fail
                    refine (awake_call _ (HT.out.mod H11.out.mod)).mono ?_
                    rintro e w12 ⟨rfl, hm12⟩
                    have H12 := Lib.hid (H11.out.more hm12)
                    clear hm12
                    go_wp2
                    go_ret
                    exact ⟨rfl, H12.out.below⟩
          · have hc := h.hNew_bad 0 rfl ha
            clear hq hsm h ha
            go_wp2_with fail
            refine hc.mono ?_
            rintro e w5 ⟨rfl, h5⟩
            have HB : Hid (Sep No w w5 []) := h5.left (Ps := [])
            clear hc h5
            go_wp2_with fail
            refine (made_call HB.out 4000 (by omega) (by omega)).mono ?_
            rintro e wm ⟨s', hb, rfl, g1⟩
            have G1 : Hid (Sep No w wm [slabR s' (Slb.empty 4000), hpAt hb s']) := g1
            clear g1 HB
            go_wp2_with fail
            obtain ⟨b, hbb⟩ : ∃ x, wm.heap.size = x := ⟨_, rfl⟩
            have h3 : Sep No w (wm.alloc (.cells #[.int .i64 4000, .slice none 0 0] 46)) [slabR s' (Slb.empty 4000), hpAt hb s', cellsAt wm.heap.size #[.int .i64 4000, .slice none 0 0] 46, pgRow (.slice none 0 0) []] := (G1.out.pushCells _ _).pushNil _ _
            obtain ⟨W, hW⟩ : ∃ x, wm.alloc (.cells #[.int .i64 4000, .slice none 0 0] 46) = x := ⟨_, rfl⟩
            rw [hW, hbb] at h3
            rw [hW, hbb]
            have HX : Hid (PlRel w 4000 hb s' b W) := ⟨Slb.empty 4000, [], [], rfl, Slb.Rep.empty (by omega) (by omega), ⟨rfl, fun P hP => by cases hP⟩, rh_new h3⟩
            clear h3 hW hbb G1
            go_loopw [21] (fun i wr => ∃ j : Nat, i = .int .i64 j ∧ j ≤ len2 ∧ PlRel w 4000 hb s' b wr) (fun i _ => len2 - (RowKit.intOf i).toNat)
            case atStart => exact ⟨0, rfl, Nat.zero_le _, HX.out⟩
            case round =>
              obtain ⟨y, rfl, hy, S, H, L, hSq, hR, hK, h⟩ := hrel
              clear HX
              by_cases hlt : y < len2
              · obtain ⟨b2, o2, rfl, hbk, hc⟩ := HR2.out.cells (by omega)
                have hzj : z2[y]? = some (z2[y]'(by rw [HR2.out.count]; exact hlt)) := List.getElem?_eq_getElem _
                obtain ⟨hrl, hro⟩ := HR2.out.ok _ (List.mem_of_getElem? hzj)
                generalize z2[y]'(by rw [HR2.out.count]; exact hlt) = r at *
                match r, hrl with
                | [d, n], _ =>
                have c0 := h.old (hc y _ hzj 0 _ d rfl rfl)
                have c1 := h.old (hc y _ hzj 1 _ n rfl rfl)
                have hn := bounds_i64 (hro 1 _ n rfl rfl)
                simp only [List.length_cons, List.length_nil, Nat.add_zero, Nat.zero_add, Nat.reduceAdd, fv] at c0 c1
                have hldO : Hid (wr.rangeAt b2 (o2 + y * 2) [.int .i64 d, .int .i64 n]) := fun jj u hu => by
                  match jj, hu with
                  | 0, hu => cases hu; exact c0
                  | 1, hu => cases hu; exact c1
                  | jj + 2, hu => cases hu
                have hx := play_call h HT.out hR hK d n (by omega) (by omega)
                have HQ := Lib.hid hSq
                clear hc hzj hro hbk h hR hK hSq
                go_wp2_with (first | (refine wpList_load_mid_g (by rfl) 50 _ (by rfl) b2 (o2 + y * 2) (by rfl) [.int .i64 d, .int .i64 n] _ hldO.out Tryd.underlying50 rfl op_size ?_))
                refine hx.mono ?_
                rintro e w8 ⟨rfl, S1, H1, L1, h8, R1, K1, q1⟩
                have HG : Hid (PlRel w 4000 hb s' b w8) := ⟨S1, H1, L1, q1.trans HQ.out, R1, K1, h8⟩
                clear hx h8 R1 K1 q1 c0 c1 hldO
                go_wp2
                go_roundw
                case rel => exact ⟨y + 1, by go_num, by omega, HG.out⟩
                case measure => (simp [RowKit.intOf]; try omega)
              · obtain rfl : y = len2 := by omega
                have hnc := h.hNew 1 rfl hR.audit
                have HLL : Hid (S.live.length ≤ 1000000) := by rw [← hK.live hR]; exact hK.live_len hR
                clear hlt hR hK hSq h
                go_wp2_with fail
                refine hnc.mono ?_
                rintro e w8 ⟨rfl, h8⟩
                have H8 := Lib.hid h8
                clear hnc h8
                obtain ⟨hp2, hhp⟩ : ∃ x, wr.heap.size = x := ⟨_, rfl⟩
                rw [hhp] at H8 ⊢
                clear hhp
                go_wp2_with fail
                refine (H8.out.hLive 3 1 rfl rfl).mono ?_
                rintro e w9 ⟨v9, rfl, h9⟩
                obtain ⟨sa9, cap9, rfl⟩ := h9.form 4 rfl
                obtain ⟨ll, hll⟩ : ∃ ll, S.live.length = ll := ⟨_, rfl⟩
                have HL9 := Lib.hid hll
                have H9 := Lib.hid h9
                rw [hll]
                clear h9 hll
                go_wp2_with fail
                refine (H9.out.hLive 0 1 rfl rfl).mono ?_
                rintro e w10 ⟨v10, rfl, h10⟩
                obtain ⟨sa10, cap10, rfl⟩ := h10.form 5 rfl
                have H10 := Lib.hid h10
                rw [HL9.out]
                clear h10
                go_wp2_with fail
                refine (rsameL (xs := S.live) (ys := S.live) HL9.out rfl (by have := H10.out.row 4 rfl; rw [HL9.out] at this ⊢; exact this) (by have := H10.out.row 5 rfl; rw [HL9.out] at this ⊢; exact this) (by rw [← HL9.out]; exact HLL.out)).mono ?_
                rintro e w11 ⟨rfl, hm11⟩
                have H11 := Lib.hid (H10.out.more hm11)
                clear hm11
                go_wp2_with fail
                refine (awake_call _ (HT.out.mod H11.out.mod)).mono ?_
                rintro e w12 ⟨rfl, hm12⟩
                have H12 := Lib.hid (H11.out.more hm12)
                clear hm12
                go_wp2
                go_ret
                exact ⟨rfl, H12.out.below⟩
set_option maxRecDepth 100000 in
theorem heapAny_walk (s0 : Option Addr) (len0 cap0 : Nat) (z0 : List (List Int)) (s1 : Option Addr) (len1 cap1 : Nat) (z1 : List (List Int)) (s2 : Option Addr) (len2 cap2 : Nat) (z2 : List (List Int)) (w : World)
    (R0 : Recs w s0 len0 [some .i64] z0) (R1 : Recs w s1 len1 [some .i64, some .i64, some .u64] z1) (R2 : Recs w s2 len2 [some .i64, some .i64] z2) (hT : Tab64 w) :
    Calls Tryd.prog 3 #[.slice s0 len0 cap0, .slice s1 len1 cap1, .slice s2 len2 cap2] w fun e w' => e = .returned (.bool true) ∧ Below w.heap.size w w' := by
  by_cases hall : (len0 ≤ 30 ∧ len1 ≤ 100) ∧ len2 ≤ 40
  · exact hany_in s0 len0 cap0 z0 s1 len1 cap1 z1 s2 len2 cap2 z2 w R0 R1 R2 hall.1.1 hall.1.2 hall.2 hT
  · have ha := awake_call w hT
    by_cases h1 : 30 < len0
    · have d1 : decide ((30 : Int) < (len0 : Int)) = true := ltT (by omega)
      clear hT h1 hall
      clear R0 R1 R2
      go_enter Tryd.func3, Tryd.ntmps3
      go_wp2_with fail
      refine ha.mono ?_
      rintro e w' ⟨rfl, hb⟩
      have H9 := Lib.hid hb
      clear ha hb
      go_wp2
      go_ret
      exact ⟨rfl, H9.out.below _ (Nat.le_refl _) (fun _ _ x => x)⟩
    have d1 : decide ((30 : Int) < (len0 : Int)) = false := ltF (by omega)
    by_cases h2 : 100 < len1
    · have d2 : decide ((100 : Int) < (len1 : Int)) = true := ltT (by omega)
      clear hT h1 h2 hall
      clear R0 R1 R2
      go_enter Tryd.func3, Tryd.ntmps3
      go_wp2_with fail
      refine ha.mono ?_
      rintro e w' ⟨rfl, hb⟩
      have H9 := Lib.hid hb
      clear ha hb
      go_wp2
      go_ret
      exact ⟨rfl, H9.out.below _ (Nat.le_refl _) (fun _ _ x => x)⟩
    have d2 : decide ((100 : Int) < (len1 : Int)) = false := ltF (by omega)
    have d30 : decide ((40 : Int) < (len2 : Int)) = true := ltT (by omega)
    clear hT h1 h2 hall
    clear R0 R1 R2
    go_enter Tryd.func3, Tryd.ntmps3
    go_wp2_with fail
    refine ha.mono ?_
    rintro e w' ⟨rfl, hb⟩
    have H9 := Lib.hid hb
    clear ha hb
    go_wp2
    go_ret
    exact ⟨rfl, H9.out.below _ (Nat.le_refl _) (fun _ _ x => x)⟩
end Go.Proofs.YtfmkiioahnphbaaDoor
