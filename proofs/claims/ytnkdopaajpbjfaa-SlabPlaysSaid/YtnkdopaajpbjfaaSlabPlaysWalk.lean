/- SlabPlays, walked. No condition. -/
import Derived.Test.YtnkdopaajpbjfaaSlabPlay
import Derived.Test.YtnkdopaajpbjfaaSlabQuota
import Derived.Test.YtnkdopaajpbjfaaPhase
namespace Go.Proofs.Ytnkdopaajpbjfaa
open Go Go.RowKit

variable {F0 : Nat → Prop} {w0 w : World} {Ps : List Res}

/-- The arena after j plays of a script. -/
def stP (q : Int) (z : List (List Int)) : Nat → Slb
  | 0 => Slb.empty q
  | j + 1 => match z[j]? with
    | some [d, a, bx, n, wv] => (stP q z j).ply d a bx n wv
    | _ => stP q z j
theorem stP_succ {q : Int} {z : List (List Int)} {j : Nat} {d a bx n wv : Int} (h : z[j]? = some [d, a, bx, n, wv]) : stP q z (j + 1) = (stP q z j).ply d a bx n wv := by rw [stP, h]
theorem stP_quota (q : Int) (z : List (List Int)) : ∀ j, (stP q z j).quota = q
  | 0 => rfl
  | j + 1 => by
    rw [stP]
    split
    · rw [Slb.ply_quota]; exact stP_quota q z j
    · exact stP_quota q z j

namespace Slb
theorem grant_small {S : Slb} (hS : S.Ok) (hq : S.quota ≤ 2000) (h : ∀ k ∈ S.pg, k < 1048576) (n : Int) : ∀ k ∈ (S.grant n).2.2.pg, k < 1048576 := by
  unfold grant
  split
  · exact h
  split
  · exact h
  · rename_i h1 h2
    intro k hk
    obtain ⟨l1, l2, _⟩ := least_spec S.pg n.toNat (by omega)
    have hfit := hS.fit
    have hm : n.toNat * S.pg.length ≤ 31 * 31 := Nat.mul_le_mul (by omega) (by omega)
    rcases (mem_more l2).1 hk with hk | hk
    · exact h k hk
    · omega
theorem ply_small {S : Slb} (hS : S.Ok) (hq : S.quota ≤ 2000) (h : ∀ k ∈ S.pg, k < 1048576) (d a bx n wv : Int) : ∀ k ∈ (S.ply d a bx n wv).pg, k < 1048576 := by
  unfold ply
  split
  · exact grant_small hS hq h a
  split
  · unfold release
    split
    · exact h
    split
    · exact fun k hk => h k (mem_less.1 hk).1
    · exact h
  split
  · exact h
  split
  · unfold write; split <;> exact h
  split
  · unfold move
    split
    · exact h
    split <;> exact h
  split
  · unfold claim
    split
    · exact h
    split
    · exact h
    split
    · exact h
    · rename_i h1 h2 h3
      intro k hk
      have hn : a.toNat ∉ S.pg := fun hin => h2 (has_iff.2 ⟨by omega, hin⟩)
      rcases (mem_more (free_one hn)).1 hk with hk | hk
      · exact h k hk
      · omega
  · exact h
end Slb

theorem rsame_call2 {n : Nat} {sa sb : Option Addr} {ca cb : Nat} {xs : List Int} (hn : xs.length = n) (h1 : w.ownsRow 0 3 1 (.slice sa n ca) xs.length (xs.map (Value.int .i64))) (h2 : w.ownsRow 0 3 1 (.slice sb n cb) xs.length (xs.map (Value.int .i64))) (hl : n ≤ 1000000) :
    Calls Try.prog 21 #[.slice sa n ca, .slice sb n cb] w fun e w' => e = .returned (.bool true) ∧ Mod No w w' := by
  subst hn
  exact rsame_call h1 h2 hl
theorem rs_shut_at {b : Nat} {S : Slb} {v : Value} {R : Res} (h : Sep F0 w0 w [R, cellsAt b #[.int .i64 S.quota, v] 48, rowAt 59 65 v S.pg.length (prow S.wd S.pg)]) : Sep F0 w0 w [R, rslabR b S] :=
  (h.shutStar 1 2 (by decide) rfl rfl rfl).shutEx 1 (fun v => starR (cellsAt b #[.int .i64 S.quota, v] 48) (rowAt 59 65 v S.pg.length (prow S.wd S.pg))) v rfl
theorem place_has (S : Slb) (a : Int) : decide (0 ≤ S.placeAt a) = S.has a := by
  unfold Slb.placeAt
  cases S.has a <;> simp




set_option maxRecDepth 100000 in
set_option maxHeartbeats 8000000 in
theorem plays_in (q : Int) (s1 : Option Addr) (len1 cap1 : Nat) (z1 : List (List Int)) (w : World) (hq : 0 ≤ q ∧ q ≤ 2000) (R : Recs w s1 len1 [some .i64, some .i64, some .i64, some .i64, some .u64] z1) (hlen : len1 ≤ 100) :
    Calls Try.prog 6 #[.int .i64 q, .slice s1 len1 cap1] w fun e w' => e = .returned (.bool true) ∧ Below w.heap.size w w' := by
  have d2 : decide (2000 < q) = false := ltF (by omega)
  have d3 : decide ((100 : Int) < (len1 : Int)) = false := ltF (by omega)
  have HR := Lib.hid R
  clear R
  go_enter Try.func6, Try.ntmps6
  go_wp2_with fail
  refine ((Sep.nil w).sNew q (by omega) (by omega)).mono ?_
  rintro e w1 ⟨rfl, h⟩
  have h0 : Sep No w w1 [slabR (w.heap.size + 1) (Slb.empty q)] := h
  obtain ⟨s, hs⟩ : ∃ b, w.heap.size + 1 = b := ⟨_, rfl⟩
  rw [hs] at h0 ⊢
  have H0 := Lib.hid h0
  clear h hs h0
  go_wp2_with fail
  refine (rnew_ok q (by omega) (by omega) w1).mono ?_
  rintro e w2 ⟨rfl, hm⟩
  have H0 := Lib.hid (H0.out.more hm)
  clear hm
  go_wp2_with fail
  obtain ⟨b, hb⟩ : ∃ x, w2.heap.size = x := ⟨_, rfl⟩
  have h3 : Sep No w (w2.alloc (.cells #[.int .i64 q, .slice none 0 0] 48)) [slabR s (Slb.empty q), cellsAt w2.heap.size #[.int .i64 q, .slice none 0 0] 48, rowAt 59 65 (.slice none 0 0) 0 []] := (H0.out.pushCells _ _).pushNil _ _
  obtain ⟨W, hW⟩ : ∃ x, w2.alloc (.cells #[.int .i64 q, .slice none 0 0] 48) = x := ⟨_, rfl⟩
  rw [hW, hb] at h3
  rw [hW, hb]
  have HX : Hid (Sep No w W [slabR s (stP q z1 0), rslabR b (stP q z1 0)]) := rs_shut_at h3
  clear h3 hW hb
  go_loopw [9] (fun i wr => ∃ j : Nat, i = .int .i64 j ∧ j ≤ len1 ∧ (∀ k ∈ (stP q z1 j).pg, k < 1048576) ∧ Sep No w wr [slabR s (stP q z1 j), rslabR b (stP q z1 j)]) (fun i _ => len1 - (RowKit.intOf i).toNat)
  case atStart => exact ⟨0, rfl, Nat.zero_le _, fun k hk => absurd hk (by show ¬ k ∈ ([] : List Nat); simp), HX.out⟩
  case round =>
    obtain ⟨j, rfl, hj, hsm, h⟩ := hrel
    clear HX
    by_cases hlt : j < len1
    ·
      obtain ⟨bb, off, rfl, hb, hc⟩ := HR.out.cells (by omega)
      have hzj : z1[j]? = some (z1[j]'(by rw [HR.out.count]; exact hlt)) := List.getElem?_eq_getElem _
      obtain ⟨hrl, hro⟩ := HR.out.ok _ (List.mem_of_getElem? hzj)
      generalize z1[j]'(by rw [HR.out.count]; exact hlt) = r at *
      match r, hrl with
      | [d, a, bx, n, wv], _ =>
      have c0 := h.drew.old (hc j _ hzj 0 _ d rfl rfl)
      have c1 := h.drew.old (hc j _ hzj 1 _ a rfl rfl)
      have c2 := h.drew.old (hc j _ hzj 2 _ bx rfl rfl)
      have c3 := h.drew.old (hc j _ hzj 3 _ n rfl rfl)
      have c4 := h.drew.old (hc j _ hzj 4 _ wv rfl rfl)
      have C := Lib.hid (And.intro (hc j _ hzj 0 _ d rfl rfl) (And.intro (hc j _ hzj 1 _ a rfl rfl) (And.intro (hc j _ hzj 2 _ bx rfl rfl) (And.intro (hc j _ hzj 3 _ n rfl rfl) (hc j _ hzj 4 _ wv rfl rfl)))))
      have ha := bounds_i64 (hro 1 _ a rfl rfl)
      have hbx := bounds_i64 (hro 2 _ bx rfl rfl)
      have hn := bounds_i64 (hro 3 _ n rfl rfl)
      have hv := bounds_u64 (hro 4 _ wv rfl rfl)
      simp only [List.length_cons, List.length_nil, Nat.add_zero, Nat.zero_add, Nat.reduceAdd, fv] at c0 c1 c2 c3 c4 C
      have hS1 := stP_succ (q := q) hzj
      have hsm2 := Slb.ply_small (h.sOk 0 rfl) (by rw [stP_quota]; omega) hsm d a bx n wv
      have hx := play_call h.drew d a bx n wv ha.1 ha.2 hbx.2 hv.1 (by omega)
      rw [← hS1] at hx hsm2
      have hqq := stP_quota q z1 (j + 1)
      have HS2 := Lib.hid hsm2
      obtain ⟨S1, hS1'⟩ : ∃ S, stP q z1 (j + 1) = S := ⟨_, rfl⟩
      have HE := Lib.hid hS1'
      rw [hS1'] at hx hqq
      have q1 : (S1.quota != q) = false := bneF hqq
      have q2 := place_has S1 a
      clear hc hzj hro hb hS1 h hS1' hqq hsm hsm2
      go_wp2_with fail
      refine wp_region_held_drew (S := fun w' => w'.cell? ⟨bb, off + j * 5, none⟩ = some (.int .i64 d) ∧ w'.cell? ⟨bb, off + j * 5 + 1, none⟩ = some (.int .i64 a) ∧ w'.cell? ⟨bb, off + j * 5 + 2, none⟩ = some (.int .i64 bx) ∧ w'.cell? ⟨bb, off + j * 5 + 3, none⟩ = some (.int .i64 n) ∧ w'.cell? ⟨bb, off + j * 5 + 4, none⟩ = some (.int .u64 wv)) (by kernel_rfl) ⟨c0, c1, c2, c3, c4⟩ (fun hHeld => ?_)
      refine wpAnyH_takeD (i := 0) (v := ?_) (some 56) rfl (by rfl) (by kernel_rfl) (by kernel_rfl) (by kernel_rfl) (fun _ _ _ h => h) (Or.inl ⟨by rfl, ?_⟩) (by assumption) ?_
      rotate_left
      · intro w hSw
        try dsimp only at hSw
        go_simp
        try with_reducible rfl
      simp only [Act.put, List.setIfInBounds_toArray, List.set_cons_zero, List.set_cons_succ]
      refine wpAnyH_takeD (i := 1) (v := ?_) (some 57) rfl (by rfl) (by kernel_rfl) (by kernel_rfl) (by kernel_rfl) (fun _ _ _ h => h) (Or.inl ⟨by rfl, ?_⟩) (by assumption) ?_
      rotate_left
      · intro w hSw
        try dsimp only at hSw
        go_simp
        try with_reducible rfl
      simp only [Act.put, List.setIfInBounds_toArray, List.set_cons_zero, List.set_cons_succ]
      refine wpAnyH_takeD (i := 2) (v := ?_) (some 58) rfl (by rfl) (by kernel_rfl) (by kernel_rfl) (by kernel_rfl) (fun _ _ _ h => h) (Or.inl ⟨by rfl, ?_⟩) (by assumption) ?_
      rotate_left
      · intro w hSw
        try dsimp only at hSw
        go_simp
        try with_reducible rfl
      simp only [Act.put, List.setIfInBounds_toArray, List.set_cons_zero, List.set_cons_succ]
      refine wpAnyH_takeD (i := 3) (v := ?_) (some 59) rfl (by rfl) (by kernel_rfl) (by kernel_rfl) (by kernel_rfl) (fun _ _ _ h => h) (Or.inl ⟨by rfl, ?_⟩) (by assumption) ?_
      rotate_left
      · intro w hSw
        try dsimp only at hSw
        go_simp
        try with_reducible rfl
      simp only [Act.put, List.setIfInBounds_toArray, List.set_cons_zero, List.set_cons_succ]
      refine wpAnyH_takeD (i := 4) (v := ?_) (some 60) rfl (by rfl) (by kernel_rfl) (by kernel_rfl) (by kernel_rfl) (fun _ _ _ h => h) (Or.inl ⟨by rfl, ?_⟩) (by assumption) ?_
      rotate_left
      · intro w hSw
        try dsimp only at hSw
        go_simp
        try with_reducible rfl
      simp only [Act.put, List.setIfInBounds_toArray, List.set_cons_zero, List.set_cons_succ]
      refine wpAnyH_ready (rs := [5]) (by kernel_rfl) (by simp) ?_
      refine AllReadyH.cons rfl (fun K hK => ?_) AllReadyH.nil
      go_simp
      refine (hx).mono ?_
      rintro e w3 ⟨rfl, h3⟩
      have hok := h3.sOk 0 rfl
      have HO := Lib.hid (And.intro (h3.old C.out.1) (And.intro (h3.old C.out.2.1) (And.intro (h3.old C.out.2.2.1) (And.intro (h3.old C.out.2.2.2.1) (h3.old C.out.2.2.2.2)))))
      obtain ⟨sa, cap, g3'⟩ := h3.rOpen 1 rfl
      have G3 : Hid (Sep No w w3 [slabR s S1, cellsAt b #[.int .i64 S1.quota, .slice sa S1.pg.length cap] 48, rowAt 59 65 (.slice sa S1.pg.length cap) S1.pg.length (prow S1.wd S1.pg)]) := g3'
      have hlen : S1.pg.length ≤ 4096 := Slb.len_le hok
      clear hx h3 g3' c0 c1 c2 c3 c4
      refine hK.out _ _ HO.out (fun _ => ?_)
      clear hK K
      refine wpAnyH_sub (S2 := fun w' => (w'.cell? ⟨bb, off + j * 5, none⟩ = some (.int .i64 d) ∧ w'.cell? ⟨bb, off + j * 5 + 1, none⟩ = some (.int .i64 a) ∧ w'.cell? ⟨bb, off + j * 5 + 2, none⟩ = some (.int .i64 bx) ∧ w'.cell? ⟨bb, off + j * 5 + 3, none⟩ = some (.int .i64 n) ∧ w'.cell? ⟨bb, off + j * 5 + 4, none⟩ = some (.int .u64 wv)) ∧ w'.cell? ⟨b, 0, none⟩ = some (.int .i64 S1.quota) ∧ w'.cell? ⟨b, 1, none⟩ = some (.slice sa S1.pg.length cap)) (fun _ h => h.1) _ _ _ _ ?_
      have hHeld := And.intro (And.intro (G3.out.old C.out.1) (And.intro (G3.out.old C.out.2.1) (And.intro (G3.out.old C.out.2.2.1) (And.intro (G3.out.old C.out.2.2.2.1) (G3.out.old C.out.2.2.2.2))))) (And.intro (G3.out.cell 1 rfl 0 (v := .int .i64 S1.quota) rfl).1 (G3.out.cell 1 rfl 1 (v := .slice sa S1.pg.length cap) rfl).1)
      try simp only [Act.put, List.setIfInBounds_toArray, List.set_cons_zero, List.set_cons_succ]
      refine wpAnyH_takeD (i := 6) (v := ?_) (some 62) rfl (by rfl) (by kernel_rfl) (by kernel_rfl) (by kernel_rfl) (fun _ _ _ h => h) (Or.inl ⟨by rfl, ?_⟩) (by assumption) ?_
      rotate_left
      · intro w hSw
        try dsimp only at hSw
        go_simp
        try with_reducible rfl
      simp only [Act.put, List.setIfInBounds_toArray, List.set_cons_zero, List.set_cons_succ]
      refine wpAnyH_takeD (i := 7) (v := ?_) (some 63) rfl (by rfl) (by kernel_rfl) (by kernel_rfl) (by kernel_rfl) (fun _ _ _ h => h) (Or.inl ⟨by rfl, ?_⟩) (by assumption) ?_
      rotate_left
      · intro w hSw
        try dsimp only at hSw
        go_simp
        try with_reducible rfl
      simp only [Act.put, List.setIfInBounds_toArray, List.set_cons_zero, List.set_cons_succ]
      refine wpAnyH_takeD (i := 8) (v := ?_) (some 64) rfl (by rfl) (by kernel_rfl) (by kernel_rfl) (by kernel_rfl) (fun _ _ _ h => h) (Or.inl ⟨by rfl, ?_⟩) (by assumption) ?_
      rotate_left
      · intro w hSw
        try dsimp only at hSw
        go_simp
        try with_reducible rfl
      simp only [Act.put, List.setIfInBounds_toArray, List.set_cons_zero, List.set_cons_succ]
      refine wpAnyH_takeD (i := 10) (v := ?_) (some 66) rfl (by rfl) (by kernel_rfl) (by kernel_rfl) (by kernel_rfl) (fun _ _ _ h => h) (Or.inl ⟨by rfl, ?_⟩) (by assumption) ?_
      rotate_left
      · intro w hSw
        try dsimp only at hSw
        go_simp
        try with_reducible rfl
      simp only [Act.put, List.setIfInBounds_toArray, List.set_cons_zero, List.set_cons_succ]
      refine wpAnyH_ready (rs := [9]) (by kernel_rfl) (by simp) ?_
      refine AllReadyH.cons rfl (fun K hK => ?_) AllReadyH.nil
      go_simp
      refine (G3.out.sPages2 0 rfl).mono ?_
      rintro e w4 ⟨sa4, cap4, rfl, g4⟩
      have G4 := Lib.hid g4
      clear g4
      have HX := And.intro (And.intro (G4.out.old C.out.1) (And.intro (G4.out.old C.out.2.1) (And.intro (G4.out.old C.out.2.2.1) (And.intro (G4.out.old C.out.2.2.2.1) (G4.out.old C.out.2.2.2.2))))) (And.intro (G4.out.cell 1 rfl 0 (v := .int .i64 S1.quota) rfl).1 (G4.out.cell 1 rfl 1 (v := .slice sa S1.pg.length cap) rfl).1)
      refine hK.out _ _ HX (fun _ => ?_)
      clear hK K hHeld
      have hHeld := HX
      clear HX
      try simp only [Act.put, List.setIfInBounds_toArray, List.set_cons_zero, List.set_cons_succ]
      refine wpAnyH_ready (rs := [11]) (by kernel_rfl) (by simp) ?_
      refine AllReadyH.cons rfl (fun K hK => ?_) AllReadyH.nil
      go_simp
      refine (rnumbers_call (G4.out.row 2 rfl) hok).mono ?_
      rintro e w5 ⟨sa5, cap5, rfl, k5⟩
      have G5 := Lib.hid (G4.out.join k5)
      clear k5
      have HX := And.intro (And.intro (G5.out.old C.out.1) (And.intro (G5.out.old C.out.2.1) (And.intro (G5.out.old C.out.2.2.1) (And.intro (G5.out.old C.out.2.2.2.1) (G5.out.old C.out.2.2.2.2))))) (And.intro (G5.out.cell 1 rfl 0 (v := .int .i64 S1.quota) rfl).1 (G5.out.cell 1 rfl 1 (v := .slice sa S1.pg.length cap) rfl).1)
      refine hK.out _ _ HX (fun _ => ?_)
      clear hK K hHeld
      have hHeld := HX
      clear HX
      try simp only [Act.put, List.setIfInBounds_toArray, List.set_cons_zero, List.set_cons_succ]
      refine wpAnyH_ready (rs := [12]) (by kernel_rfl) (by simp) ?_
      refine AllReadyH.cons rfl (fun K hK => ?_) AllReadyH.nil
      go_simp
      refine (rsame_call2 (xs := nums S1.pg) (List.length_map _) (G5.out.row 3 rfl) (G5.out.row 4 rfl) (by omega)).mono ?_
      rintro e w6 ⟨rfl, hm6⟩
      have G6 := Lib.hid (G5.out.more hm6)
      clear hm6
      have HX := And.intro (And.intro (G6.out.old C.out.1) (And.intro (G6.out.old C.out.2.1) (And.intro (G6.out.old C.out.2.2.1) (And.intro (G6.out.old C.out.2.2.2.1) (G6.out.old C.out.2.2.2.2))))) (And.intro (G6.out.cell 1 rfl 0 (v := .int .i64 S1.quota) rfl).1 (G6.out.cell 1 rfl 1 (v := .slice sa S1.pg.length cap) rfl).1)
      refine hK.out _ _ HX (fun _ => ?_)
      clear hK K hHeld
      have hHeld := HX
      clear HX
      try simp only [Act.put, List.setIfInBounds_toArray, List.set_cons_zero, List.set_cons_succ]
      refine wpAnyH_takeD (i := 13) (v := ?_) (some 69) rfl (by rfl) (by kernel_rfl) (by kernel_rfl) (by kernel_rfl) (fun _ _ _ h => h) (Or.inl ⟨by rfl, ?_⟩) (by assumption) ?_
      rotate_left
      · intro w hSw
        try dsimp only at hSw
        go_simp
        try with_reducible rfl
      simp only [Act.put, List.setIfInBounds_toArray, List.set_cons_zero, List.set_cons_succ]
      refine wpAnyH_takeD (i := 14) (v := ?_) (some 70) rfl (by rfl) (by kernel_rfl) (by kernel_rfl) (by kernel_rfl) (fun _ _ _ h => h) (Or.inl ⟨by rfl, ?_⟩) (by assumption) ?_
      rotate_left
      · intro w hSw
        try dsimp only at hSw
        go_simp
        try with_reducible rfl
      simp only [Act.put, List.setIfInBounds_toArray, List.set_cons_zero, List.set_cons_succ]
      refine wpAnyH_takeD (i := 15) (v := ?_) (some 71) rfl (by rfl) (by kernel_rfl) (by kernel_rfl) (by kernel_rfl) (fun _ _ _ h => h) (Or.inl ⟨by rfl, ?_⟩) (by assumption) ?_
      rotate_left
      · intro w hSw
        try dsimp only at hSw
        go_simp
        try with_reducible rfl
      simp only [Act.put, List.setIfInBounds_toArray, List.set_cons_zero, List.set_cons_succ]
      refine wpAnyH_takeD (i := 16) (v := ?_) (some 72) rfl (by rfl) (by kernel_rfl) (by kernel_rfl) (by kernel_rfl) (fun _ _ _ h => h) (Or.inl ⟨by rfl, ?_⟩) (by assumption) ?_
      rotate_left
      · intro w hSw
        try dsimp only at hSw
        go_simp
        try with_reducible rfl
      simp only [Act.put, List.setIfInBounds_toArray, List.set_cons_zero, List.set_cons_succ]
      refine wpAnyH_takeD (i := 18) (v := ?_) (some 74) rfl (by rfl) (by kernel_rfl) (by kernel_rfl) (by kernel_rfl) (fun _ _ _ h => h) (Or.inl ⟨by rfl, ?_⟩) (by assumption) ?_
      rotate_left
      · intro w hSw
        try dsimp only at hSw
        go_simp
        try with_reducible rfl
      simp only [Act.put, List.setIfInBounds_toArray, List.set_cons_zero, List.set_cons_succ]
      refine wpAnyH_ready (rs := [17]) (by kernel_rfl) (by simp) ?_
      refine AllReadyH.cons rfl (fun K hK => ?_) AllReadyH.nil
      go_simp
      refine (G6.out.sQuota 0 rfl).mono ?_
      rintro e w7 ⟨rfl, rfl⟩
      have HX := hHeld
      refine hK.out _ _ HX (fun _ => ?_)
      clear hK K hHeld
      have hHeld := HX
      clear HX
      try simp only [Act.put, List.setIfInBounds_toArray, List.set_cons_zero, List.set_cons_succ]
      refine wpAnyH_takeD (i := 19) (v := ?_) (some 75) rfl (by rfl) (by kernel_rfl) (by kernel_rfl) (by kernel_rfl) (fun _ _ _ h => h) (Or.inl ⟨by rfl, ?_⟩) (by assumption) ?_
      rotate_left
      · intro w hSw
        try dsimp only at hSw
        go_simp
        try with_reducible rfl
      simp only [Act.put, List.setIfInBounds_toArray, List.set_cons_zero, List.set_cons_succ]
      refine wpAnyH_takeD (i := 20) (v := ?_) (some 76) rfl (by rfl) (by kernel_rfl) (by kernel_rfl) (by kernel_rfl) (fun _ _ _ h => h) (Or.inl ⟨by rfl, ?_⟩) (by assumption) ?_
      rotate_left
      · intro w hSw
        try dsimp only at hSw
        go_simp
        try with_reducible rfl
      simp only [Act.put, List.setIfInBounds_toArray, List.set_cons_zero, List.set_cons_succ]
      refine wpAnyH_takeD (i := 21) (v := ?_) (some 77) rfl (by rfl) (by kernel_rfl) (by kernel_rfl) (by kernel_rfl) (fun _ _ _ h => h) (Or.inl ⟨by rfl, ?_⟩) (by assumption) ?_
      rotate_left
      · intro w hSw
        try dsimp only at hSw
        go_simp
        try with_reducible rfl
      simp only [Act.put, List.setIfInBounds_toArray, List.set_cons_zero, List.set_cons_succ]
      refine wpAnyH_takeD (i := 22) (v := ?_) (some 78) rfl (by rfl) (by kernel_rfl) (by kernel_rfl) (by kernel_rfl) (fun _ _ _ h => h) (Or.inl ⟨by rfl, ?_⟩) (by assumption) ?_
      rotate_left
      · intro w hSw
        try dsimp only at hSw
        go_simp
        try with_reducible rfl
      simp only [Act.put, List.setIfInBounds_toArray, List.set_cons_zero, List.set_cons_succ]
      refine wpAnyH_takeD (i := 23) (v := ?_) (some 79) rfl (by rfl) (by kernel_rfl) (by kernel_rfl) (by kernel_rfl) (fun _ _ _ h => h) (Or.inl ⟨by rfl, ?_⟩) (by assumption) ?_
      rotate_left
      · intro w hSw
        try dsimp only at hSw
        go_simp
        try with_reducible rfl
      simp only [Act.put, List.setIfInBounds_toArray, List.set_cons_zero, List.set_cons_succ]
      refine wpAnyH_takeD (i := 24) (v := ?_) (some 80) rfl (by rfl) (by kernel_rfl) (by kernel_rfl) (by kernel_rfl) (fun _ _ _ h => h) (Or.inl ⟨by rfl, ?_⟩) (by assumption) ?_
      rotate_left
      · intro w hSw
        try dsimp only at hSw
        go_simp
        try with_reducible rfl
      simp only [Act.put, List.setIfInBounds_toArray, List.set_cons_zero, List.set_cons_succ]
      refine wpAnyH_takeD (i := 25) (v := ?_) (some 81) rfl (by rfl) (by kernel_rfl) (by kernel_rfl) (by kernel_rfl) (fun _ _ _ h => h) (Or.inl ⟨by rfl, ?_⟩) (by assumption) ?_
      rotate_left
      · intro w hSw
        try dsimp only at hSw
        go_simp
        try with_reducible rfl
      simp only [Act.put, List.setIfInBounds_toArray, List.set_cons_zero, List.set_cons_succ]
      refine wpAnyH_takeD (i := 26) (v := ?_) (some 82) rfl (by rfl) (by kernel_rfl) (by kernel_rfl) (by kernel_rfl) (fun _ _ _ h => h) (Or.inl ⟨by rfl, ?_⟩) (by assumption) ?_
      rotate_left
      · intro w hSw
        try dsimp only at hSw
        go_simp
        try with_reducible rfl
      simp only [Act.put, List.setIfInBounds_toArray, List.set_cons_zero, List.set_cons_succ]
      refine wpAnyH_takeD (i := 27) (v := ?_) (some 83) rfl (by rfl) (by kernel_rfl) (by kernel_rfl) (by kernel_rfl) (fun _ _ _ h => h) (Or.inl ⟨by rfl, ?_⟩) (by assumption) ?_
      rotate_left
      · intro w hSw
        try dsimp only at hSw
        go_simp
        try with_reducible rfl
      simp only [Act.put, List.setIfInBounds_toArray, List.set_cons_zero, List.set_cons_succ]
      refine wpAnyH_takeD (i := 29) (v := ?_) (some 85) rfl (by rfl) (by kernel_rfl) (by kernel_rfl) (by kernel_rfl) (fun _ _ _ h => h) (Or.inl ⟨by rfl, ?_⟩) (by assumption) ?_
      rotate_left
      · intro w hSw
        try dsimp only at hSw
        go_simp
        try with_reducible rfl
      simp only [Act.put, List.setIfInBounds_toArray, List.set_cons_zero, List.set_cons_succ]
      refine wpAnyH_takeD (i := 30) (v := ?_) (some 86) rfl (by rfl) (by kernel_rfl) (by kernel_rfl) (by kernel_rfl) (fun _ _ _ h => h) (Or.inl ⟨by rfl, ?_⟩) (by assumption) ?_
      rotate_left
      · intro w hSw
        try dsimp only at hSw
        go_simp
        try with_reducible rfl
      simp only [Act.put, List.setIfInBounds_toArray, List.set_cons_zero, List.set_cons_succ]
      refine wpAnyH_takeD (i := 31) (v := ?_) (some 87) rfl (by rfl) (by kernel_rfl) (by kernel_rfl) (by kernel_rfl) (fun _ _ _ h => h) (Or.inl ⟨by rfl, ?_⟩) (by assumption) ?_
      rotate_left
      · intro w hSw
        try dsimp only at hSw
        go_simp
        try with_reducible rfl
      simp only [Act.put, List.setIfInBounds_toArray, List.set_cons_zero, List.set_cons_succ]
      refine wpAnyH_takeD (i := 32) (v := ?_) (some 88) rfl (by rfl) (by kernel_rfl) (by kernel_rfl) (by kernel_rfl) (fun _ _ _ h => h) (Or.inl ⟨by rfl, ?_⟩) (by assumption) ?_
      rotate_left
      · intro w hSw
        try dsimp only at hSw
        go_simp
        try with_reducible rfl
      simp only [Act.put, List.setIfInBounds_toArray, List.set_cons_zero, List.set_cons_succ]
      refine wpAnyH_takeD (i := 33) (v := ?_) (some 89) rfl (by rfl) (by kernel_rfl) (by kernel_rfl) (by kernel_rfl) (fun _ _ _ h => h) (Or.inl ⟨by rfl, ?_⟩) (by assumption) ?_
      rotate_left
      · intro w hSw
        try dsimp only at hSw
        go_simp
        try with_reducible rfl
      simp only [Act.put, List.setIfInBounds_toArray, List.set_cons_zero, List.set_cons_succ]
      refine wpAnyH_takeD (i := 34) (v := ?_) (some 90) rfl (by rfl) (by kernel_rfl) (by kernel_rfl) (by kernel_rfl) (fun _ _ _ h => h) (Or.inl ⟨by rfl, ?_⟩) (by assumption) ?_
      rotate_left
      · intro w hSw
        try dsimp only at hSw
        go_simp
        try with_reducible rfl
      simp only [Act.put, List.setIfInBounds_toArray, List.set_cons_zero, List.set_cons_succ]
      refine wpAnyH_ready (rs := [28]) (by kernel_rfl) (by simp) ?_
      refine AllReadyH.cons rfl (fun K hK => ?_) AllReadyH.nil
      go_simp
      refine (G6.out.sIs 0 rfl a ha.1 ha.2).mono ?_
      rintro e w8 ⟨rfl, rfl⟩
      have HX := hHeld
      refine hK.out _ _ HX (fun _ => ?_)
      clear hK K hHeld
      have hHeld := HX
      clear HX
      try simp only [Act.put, List.setIfInBounds_toArray, List.set_cons_zero, List.set_cons_succ]
      refine wpAnyH_ready (rs := [35]) (by kernel_rfl) (by simp) ?_
      refine AllReadyH.cons rfl (fun K hK => ?_) AllReadyH.nil
      go_simp
      refine (rat_call (G6.out.row 2 rfl) hok a).mono ?_
      rintro e w9 ⟨rfl, hm9⟩
      have G9 := Lib.hid (G6.out.more hm9)
      clear hm9
      have HX := And.intro (And.intro (G9.out.old C.out.1) (And.intro (G9.out.old C.out.2.1) (And.intro (G9.out.old C.out.2.2.1) (And.intro (G9.out.old C.out.2.2.2.1) (G9.out.old C.out.2.2.2.2))))) (And.intro (G9.out.cell 1 rfl 0 (v := .int .i64 S1.quota) rfl).1 (G9.out.cell 1 rfl 1 (v := .slice sa S1.pg.length cap) rfl).1)
      refine hK.out _ _ HX (fun _ => ?_)
      clear hK K hHeld
      have hHeld := HX
      clear HX
      try simp only [Act.put, List.setIfInBounds_toArray, List.set_cons_zero, List.set_cons_succ]
      refine wpAnyH_takeD (i := 36) (v := ?_) (some 92) rfl (by rfl) (by kernel_rfl) (by kernel_rfl) (by kernel_rfl) (fun _ _ _ h => h) (Or.inl ⟨by rfl, ?_⟩) (by assumption) ?_
      rotate_left
      · intro w hSw
        try dsimp only at hSw
        go_simp
        try with_reducible rfl
      simp only [Act.put, List.setIfInBounds_toArray, List.set_cons_zero, List.set_cons_succ]
      refine wpAnyH_takeD (i := 37) (v := ?_) (some 93) rfl (by rfl) (by kernel_rfl) (by kernel_rfl) (by kernel_rfl) (fun _ _ _ h => h) (Or.inl ⟨by rfl, ?_⟩) (by assumption) ?_
      rotate_left
      · intro w hSw
        try dsimp only at hSw
        go_simp
        try with_reducible rfl
      simp only [Act.put, List.setIfInBounds_toArray, List.set_cons_zero, List.set_cons_succ]
      refine wpAnyH_takeD (i := 38) (v := ?_) (some 94) rfl (by rfl) (by kernel_rfl) (by kernel_rfl) (by kernel_rfl) (fun _ _ _ h => h) (Or.inl ⟨by rfl, ?_⟩) (by assumption) ?_
      rotate_left
      · intro w hSw
        try dsimp only at hSw
        go_simp
        try with_reducible rfl
      simp only [Act.put, List.setIfInBounds_toArray, List.set_cons_zero, List.set_cons_succ]
      refine wpAnyH_done (by kernel_rfl) ?_ _
      --END
      have H9 := Lib.hid (rs_shut_at (Sep.left (Ps := [_, _, _]) G9.out))
      clear hHeld
      go_wp2
      go_roundw
      case rel => exact ⟨j + 1, by go_num, by omega, HS2.out, by rw [HE.out]; exact H9.out⟩
      case measure => simp [RowKit.intOf]; omega
    · obtain rfl : j = len1 := by omega
      have hok := h.sOk 0 rfl
      have hlen : ((stP q z1 j).pg.length : Int) ≤ 4096 := by have := Slb.len_le hok; omega
      have HO := Lib.hid hok
      have HM := Lib.hid hsm
      obtain ⟨sa, cap, h⟩ := h.rOpen 1 rfl
      have HX : Hid (Sep No w wr [slabR s (stP q z1 j), cellsAt b #[.int .i64 (stP q z1 j).quota, .slice sa (stP q z1 j).pg.length cap] 48, rowAt 59 65 (.slice sa (stP q z1 j).pg.length cap) (stP q z1 j).pg.length (prow (stP q z1 j).wd (stP q z1 j).pg)]) := h
      generalize stP q z1 j = S at *
      clear h hlt hok hsm
      go_wp2_with fail
      go_loopw [10] (fun i wr => ∃ p : Nat, i = .int .i64 p ∧ p ≤ S.pg.length ∧ Sep No w wr [slabR s S, cellsAt b #[.int .i64 S.quota, .slice sa S.pg.length cap] 48, rowAt 59 65 (.slice sa S.pg.length cap) S.pg.length (prow S.wd S.pg)]) (fun i _ => S.pg.length - (RowKit.intOf i).toNat)
      case atStart => exact ⟨0, rfl, Nat.zero_le _, HX.out⟩
      case round =>
        obtain ⟨p, rfl, hp, h⟩ := hrel
        have b1 := (h.cell 1 rfl 1 (v := .slice sa S.pg.length cap) rfl).1
        clear HX
        by_cases hlt : p < S.pg.length
        · have hs := List.getElem?_eq_getElem hlt
          have hk := HM.out _ (List.mem_of_getElem? hs)
          have hmem := List.mem_of_getElem? hs
          have HS := Lib.hid hs
          have hlt' : (p : Int) < (S.pg.length : Int) := by omega
          have HX := Lib.hid h
          generalize S.pg[p] = k at *
          clear hs h
          go_wp2_with fail
          go_loopw [11] (fun i wr => ∃ t : Nat, i = .int .i64 t ∧ t ≤ 64 ∧ Sep No w wr [slabR s S, cellsAt b #[.int .i64 S.quota, .slice sa S.pg.length cap] 48, rowAt 59 65 (.slice sa S.pg.length cap) S.pg.length (prow S.wd S.pg)]) (fun i _ => 64 - (RowKit.intOf i).toNat)
          case atStart => exact ⟨0, rfl, Nat.zero_le _, HX.out⟩
          case round =>
            obtain ⟨t, rfl, ht, h⟩ := hrel
            clear HX
            have b1 := (h.cell 1 rfl 1 (v := .slice sa S.pg.length cap) rfl).1
            by_cases hlt2 : t < 64
            · have hlt2' : (t : Int) < 64 := by omega
              have ht0 : (0 : Int) ≤ (t : Int) := by omega
              have hk0 : (0 : Int) ≤ (k : Int) := by omega
              have hk1 : (k : Int) ≤ 1048575 := by omega
              obtain ⟨g, rfl, _, hg, e0, ew, _⟩ := ppage (h.row 2 rfl) HS.out
              have ew2 := ew t hlt2
              clear ew
              have he : S.err ((k : Int) * 64 + (t : Int)) = 0 := Slb.err_in (by omega) (by omega) (by rw [show (((k : Int) * 64 + (t : Int)) / 64).toNat = k by omega]; exact hmem)
              have hr := Slb.read_in he
              rw [show ((k : Int) * 64 + (t : Int)).toNat = 64 * k + t by omega] at hr
              obtain ⟨x, hx⟩ : ∃ x, S.wd (64 * k + t) = x := ⟨_, rfl⟩
              rw [hx] at hr ew2
              have hc := h.sRead 0 rfl ((k : Int) * 64 + (t : Int)) hr
              have hX := Lib.hid h
              have q1 : (x != x) = false := bneF rfl
              clear h he hr hx
              go_wp2_with fail
              refine hc.mono ?_
              rintro e w3 ⟨rfl, rfl⟩
              clear hc
              go_wp2
              go_roundw
              case rel => exact ⟨t + 1, by go_num, by omega, hX.out⟩
              case measure => simp [RowKit.intOf]; omega
            · obtain rfl : t = 64 := by omega
              have hX := Lib.hid h
              clear h hlt2
              go_wp2
              go_roundw
              case rel => exact ⟨p + 1, by go_num, by omega, hX.out⟩
              case measure => simp [RowKit.intOf]; omega
        · obtain rfl : p = S.pg.length := by omega
          have hX := Lib.hid h
          clear h hlt
          go_wp2_with fail
          refine (awake_call _).mono ?_
          rintro e w6 ⟨rfl, hm⟩
          go_wp2
          go_ret
          exact ⟨rfl, (hX.out.more hm).below⟩

set_option maxRecDepth 100000 in
theorem plays_no (q : Int) (s1 : Option Addr) (len1 cap1 : Nat) (z1 : List (List Int)) (w : World) (hq : q < 0 ∨ 262144 < q) (_R : Recs w s1 len1 [some .i64, some .i64, some .i64, some .i64, some .u64] z1) (hlen : len1 ≤ 100) :
    Calls Try.prog 6 #[.int .i64 q, .slice s1 len1 cap1] w fun e w' => e = .returned (.bool true) ∧ Below w.heap.size w w' := by
  have d3 : decide ((100 : Int) < (len1 : Int)) = false := ltF (by omega)
  have h1 := snew_no q hq w
  have h2 := rnew_no q hq w
  have HD : Hid ((decide (2000 < q) = false) ∨ (decide (2000 < q) = true ∧ decide (q ≤ 262144) = false)) := by
    rcases hq with h | h
    · exact .inl (ltF (by omega))
    · exact .inr ⟨ltT (by omega), leF (by omega)⟩
  clear hq
  rcases HD.out with d1 | ⟨d1, d2⟩ <;>
  · go_enter Try.func6, Try.ntmps6
    go_wp2_with fail
    refine h1.mono ?_
    rintro e w1 ⟨rfl, rfl⟩
    clear h1
    go_wp2_with fail
    refine h2.mono ?_
    rintro e w2 ⟨rfl, hm⟩
    have hm := hm.alloc (.cells #[.int .i64 0, .slice none 0 0] 48)
    have HM := Lib.hid hm
    obtain ⟨b, hb⟩ : ∃ x, w2.heap.size = x := ⟨_, rfl⟩
    clear h2 hm
    go_wp2_with fail
    go_loop [9] (fun i => i = .int .i64 0) (fun _ => 0)
    case atStart => rfl
    case round =>
      subst hrel
      go_wp2_with fail
      all_goals (
        go_loop [10] (fun i => i = .int .i64 0) (fun _ => 0)
        case atStart => rfl
        case round =>
          subst hrel
          go_wp2_with fail
          refine (awake_call _).mono ?_
          rintro e w6 ⟨rfl, hm⟩
          go_wp2
          go_ret
          exact ⟨rfl, (HM.out.trans' hm).below _ (Nat.le_refl _) (fun _ _ x => x)⟩)

set_option maxRecDepth 100000 in
theorem slabPlays_walk (a0 : Int) (s1 : Option Addr) (len1 cap1 : Nat) (z1 : List (List Int)) (w : World) (_w0 : (Lit.int .i64 a0).wf = true) (R : Recs w s1 len1 [some .i64, some .i64, some .i64, some .i64, some .u64] z1) :
    Calls Try.prog 6 #[.int .i64 a0, .slice s1 len1 cap1] w fun e w' => e = .returned (.bool true) ∧ Below w.heap.size w w' := by
  by_cases h1 : 100 < len1
  · have d1 : decide ((100 : Int) < (len1 : Int)) = true := ltT (by omega)
    have hc := awake_call w
    clear R h1
    go_enter Try.func6, Try.ntmps6
    go_wp2_with fail
    refine hc.mono ?_
    rintro e w' ⟨rfl, hm⟩
    clear hc
    go_wp2
    go_ret
    exact ⟨rfl, hm.below _ (Nat.le_refl _) (fun _ _ x => x)⟩
  by_cases h2 : 2000 < a0 ∧ a0 ≤ 262144
  · have d1 : decide ((100 : Int) < (len1 : Int)) = false := ltF (by omega)
    have d2 : decide (2000 < a0) = true := ltT h2.1
    have d3 : decide (a0 ≤ 262144) = true := leT h2.2
    have hc := awake_call w
    clear R h1 h2
    go_enter Try.func6, Try.ntmps6
    go_wp2_with fail
    refine hc.mono ?_
    rintro e w' ⟨rfl, hm⟩
    clear hc
    go_wp2
    go_ret
    exact ⟨rfl, hm.below _ (Nat.le_refl _) (fun _ _ x => x)⟩
  by_cases h3 : a0 < 0 ∨ 262144 < a0
  · exact plays_no a0 s1 len1 cap1 z1 w h3 R (by omega)
  · exact plays_in a0 s1 len1 cap1 z1 w (by omega) R (by omega)
end Go.Proofs.Ytnkdopaajpbjfaa
