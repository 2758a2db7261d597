/- HeapPlays, walked. Condition: the table of math/bits holds what its initialiser lays. -/
import Derived.Test.YtpcomekikeoliaaGreatDoorPlay04
import Derived.Test.YtpcomekikeoliaaGreatDoorSlabRef2
import Derived.Test.YtpcomekikeoliaaGreatDoorFlat
import Derived.Test.YtpcomekikeoliaaGreatDoorArgs
set_option linter.unusedVariables false
set_option linter.unusedSimpArgs false
set_option maxRecDepth 100000
namespace Go.Proofs.YtpcomekikeoliaaGreatDoor
open Go Go.RowKit

/-- What holds at the head of a round. -/
def PlRel (w0 : World) (q : Int) (hb s b : Nat) (wr : World) : Prop :=
  ∃ (S : Slb) (H : List Ent) (L : List RPg), S.quota = q ∧ Slb.Rep S H ∧ Like H L ∧ Sep No w0 wr [hpAt hb s, slabR s S, rheapR b S.quota L]
theorem rh_new {F0 : Nat → Prop} {w0 w : World} {hb s b : Nat} {q : Int} {S : Slb} (h : Sep F0 w0 w [slabR s S, hpAt hb s, cellsAt b #[.int .i64 q, .slice none 0 0] 30, pgRow (.slice none 0 0) []]) : Sep F0 w0 w [hpAt hb s, slabR s S, rheapR b q []] := by
  have h2 := (h.shutStar 2 3 (by decide) rfl rfl rfl).shutEx 2 (fun v => starR (cellsAt b #[.int .i64 q, v] 30) (pgRow v [])) _ rfl
  exact Sep.pick h2 (fun i => if i = 0 then 1 else if i = 1 then 0 else 2) (fun i hi => by match i, hi with | 0, _ => rfl | 1, _ => rfl | 2, _ => rfl) (fun i k hi hk hik => by match i, k, hi, hk with | 0, 1, _, _ => decide | 0, 2, _, _ => decide | 1, 0, _, _ => decide | 1, 2, _, _ => decide | 2, 0, _, _ => decide | 2, 1, _, _ => decide | 0, 0, _, _ => exact absurd rfl hik | 1, 1, _, _ => exact absurd rfl hik | 2, 2, _, _ => exact absurd rfl hik)
theorem rh_open2 {F0 : Nat → Prop} {w0 w : World} {hb s b : Nat} {q : Int} {S : Slb} {L : List RPg} (h : Sep F0 w0 w [hpAt hb s, slabR s S, rheapR b q L]) : ∃ sa cap, Sep F0 w0 w [hpAt hb s, slabR s S, cellsAt b #[.int .i64 q, .slice sa L.length cap] 30, pgRow (.slice sa L.length cap) L] := by
  obtain ⟨v, h⟩ := h.openEx 2 rfl
  have h : Sep F0 w0 w [hpAt hb s, slabR s S, cellsAt b #[.int .i64 q, v] 30, pgRow v L] := h.openStar 2 rfl
  obtain ⟨sa, cap, rfl⟩ := h.form 3 rfl
  exact ⟨sa, cap, h⟩
theorem rh_shut2 {F0 : Nat → Prop} {w0 w : World} {hb s b : Nat} {q : Int} {S : Slb} {L : List RPg} {v : Value} (h : Sep F0 w0 w [hpAt hb s, slabR s S, cellsAt b #[.int .i64 q, v] 30, pgRow v L]) : Sep F0 w0 w [hpAt hb s, slabR s S, rheapR b q L] :=
  (h.shutStar 2 3 (by decide) rfl rfl rfl).shutEx 2 (fun v => starR (cellsAt b #[.int .i64 q, v] 30) (pgRow v L)) _ rfl

theorem rsameL {w : World} {n : Nat} {sa sb : Option Addr} {ca cb : Nat} {xs ys : List Int} (hn : xs.length = n) (he : ys = xs) (h1 : w.ownsRow 0 3 1 (.slice sa n ca) xs.length (xs.map (Value.int .i64))) (h2 : w.ownsRow 0 3 1 (.slice sb n cb) ys.length (ys.map (Value.int .i64))) (hl : n ≤ 1000000) :
    Calls Tryz.prog 8 #[.slice sa n ca, .slice sb n cb] w fun e w' => e = .returned (.bool true) ∧ Mod No w w' := by
  subst hn
  subst he
  exact rsame_call h1 h2 hl

set_option maxRecDepth 100000 in
set_option maxHeartbeats 8000000 in
theorem hplays_in (q : Int) (s1 : Option Addr) (len1 cap1 : Nat) (z1 : List (List Int)) (w : World) (hq : 0 ≤ q ∧ q ≤ 4000) (R : Recs w s1 len1 [some .i64, some .i64] z1) (hlen : len1 ≤ 80) (hT : Tab64 w) :
    Calls Tryz.prog 3 #[.int .i64 q, .slice s1 len1 cap1] w fun e w' => e = .returned (.bool true) ∧ Below w.heap.size w w' := by
  have d1 : decide (q < 0) = false := ltF (by omega)
  have d2 : decide (4000 < q) = false := ltF (by omega)
  have d3 : decide ((80 : Int) < (len1 : Int)) = false := ltF (by omega)
  have HR := Lib.hid R
  have HT := Lib.hid hT
  clear R hT
  go_enter Tryz.func3, Tryz.ntmps3
  go_wp2_with fail
  refine (made_call (Sep.nil w) q (by omega) (by omega)).mono ?_
  rintro e w1 ⟨s, hb, rfl, g1⟩
  have G1 : Hid (Sep No w w1 [slabR s (Slb.empty q), hpAt hb s]) := g1
  clear g1
  go_wp2_with fail
  obtain ⟨b, hbb⟩ : ∃ x, w1.heap.size = x := ⟨_, rfl⟩
  have h3 : Sep No w (w1.alloc (.cells #[.int .i64 q, .slice none 0 0] 30)) [slabR s (Slb.empty q), hpAt hb s, cellsAt w1.heap.size #[.int .i64 q, .slice none 0 0] 30, pgRow (.slice none 0 0) []] := (G1.out.pushCells _ _).pushNil _ _
  obtain ⟨W, hW⟩ : ∃ x, w1.alloc (.cells #[.int .i64 q, .slice none 0 0] 30) = x := ⟨_, rfl⟩
  rw [hW, hbb] at h3
  rw [hW, hbb]
  have HX : Hid (PlRel w q hb s b W) := ⟨Slb.empty q, [], [], rfl, Slb.Rep.empty (by omega) (by omega), ⟨rfl, fun P hP => by cases hP⟩, rh_new h3⟩
  clear h3 hW hbb
  clear d1 d2 d3 G1
  go_loopw [9] (fun i wr => ∃ j : Nat, i = .int .i64 j ∧ j ≤ len1 ∧ PlRel w q hb s b wr) (fun i _ => len1 - (RowKit.intOf i).toNat)
  case atStart => exact ⟨0, rfl, Nat.zero_le _, HX.out⟩
  case round =>
    obtain ⟨j, rfl, hj, S, H, L, hSq, hR, hK, h⟩ := hrel
    clear HX
    by_cases hlt : j < len1
    · obtain ⟨bb, off, rfl, hbk, hc⟩ := HR.out.cells (by omega)
      have hzj : z1[j]? = some (z1[j]'(by rw [HR.out.count]; exact hlt)) := List.getElem?_eq_getElem _
      obtain ⟨hrl, hro⟩ := HR.out.ok _ (List.mem_of_getElem? hzj)
      generalize z1[j]'(by rw [HR.out.count]; exact hlt) = r at *
      match r, hrl with
      | [d, n], _ =>
      have c0 := h.drew.old (hc j _ hzj 0 _ d rfl rfl)
      have c1 := h.drew.old (hc j _ hzj 1 _ n rfl rfl)
      have C := Lib.hid (And.intro (hc j _ hzj 0 _ d rfl rfl) (hc j _ hzj 1 _ n rfl rfl))
      have hn := bounds_i64 (hro 1 _ n rfl rfl)
      simp only [List.length_cons, List.length_nil, Nat.add_zero, Nat.zero_add, Nat.reduceAdd, fv] at c0 c1 C
      have hx := play_call h.drew HT.out hR hK d n (by omega) (by omega)
      have HQ := Lib.hid hSq
      clear hc hzj hro hbk h hR hK hSq
      go_wp2_with fail
      refine wp_region_held_drew (S := fun w' => w'.cell? ⟨bb, off + j * 2, none⟩ = some (.int .i64 d) ∧ w'.cell? ⟨bb, off + j * 2 + 1, none⟩ = some (.int .i64 n)) (by kernel_rfl) ⟨c0, c1⟩ (fun hHeld => ?_)
      refine wpAnyH_takeD (i := 0) (v := ?_) (some 39) rfl (by rfl) (by kernel_rfl) (by kernel_rfl) (by kernel_rfl) (fun _ _ _ h => h) (Or.inl ⟨by rfl, ?_⟩) (by assumption) ?_
      rotate_left
      · intro w hSw
        try dsimp only at hSw
        go_simp
        try with_reducible rfl
      simp only [Act.put, List.setIfInBounds_toArray, List.set_cons_zero, List.set_cons_succ]
      refine wpAnyH_takeD (i := 1) (v := ?_) (some 40) rfl (by rfl) (by kernel_rfl) (by kernel_rfl) (by kernel_rfl) (fun _ _ _ h => h) (Or.inl ⟨by rfl, ?_⟩) (by assumption) ?_
      rotate_left
      · intro w hSw
        try dsimp only at hSw
        go_simp
        try with_reducible rfl
      simp only [Act.put, List.setIfInBounds_toArray, List.set_cons_zero, List.set_cons_succ]
      refine wpAnyH_takeD (i := 2) (v := ?_) (some 41) rfl (by rfl) (by kernel_rfl) (by kernel_rfl) (by kernel_rfl) (fun _ _ _ h => h) (Or.inl ⟨by rfl, ?_⟩) (by assumption) ?_
      rotate_left
      · intro w hSw
        try dsimp only at hSw
        go_simp
        try with_reducible rfl
      simp only [Act.put, List.setIfInBounds_toArray, List.set_cons_zero, List.set_cons_succ]
      refine wpAnyH_takeD (i := 3) (v := ?_) (some 42) rfl (by rfl) (by kernel_rfl) (by kernel_rfl) (by kernel_rfl) (fun _ _ _ h => h) (Or.inl ⟨by rfl, ?_⟩) (by assumption) ?_
      rotate_left
      · intro w hSw
        try dsimp only at hSw
        go_simp
        try with_reducible rfl
      simp only [Act.put, List.setIfInBounds_toArray, List.set_cons_zero, List.set_cons_succ]
      refine wpAnyH_takeD (i := 4) (v := ?_) (some 43) rfl (by rfl) (by kernel_rfl) (by kernel_rfl) (by kernel_rfl) (fun _ _ _ h => h) (Or.inl ⟨by rfl, ?_⟩) (by assumption) ?_
      rotate_left
      · intro w hSw
        try dsimp only at hSw
        go_simp
        try with_reducible rfl
      simp only [Act.put, List.setIfInBounds_toArray, List.set_cons_zero, List.set_cons_succ]
      refine wpAnyH_ready (rs := [5]) (by kernel_rfl) (by simp) ?_
      refine AllReadyH.cons rfl (fun K hK => ?_) AllReadyH.nil
      go_simp
      refine (hx).mono ?_
      rintro e w3 ⟨rfl, S1, H1, L1, h3, R1, K1, q1⟩
      obtain ⟨sa, cap, g3'⟩ := rh_open2 h3
      have G3 := Lib.hid g3'
      have HO := Lib.hid (And.intro (h3.old C.out.1) (h3.old C.out.2))
      have HK1 := Lib.hid (And.intro R1 (And.intro K1 (q1.trans HQ.out)))
      have hlen := K1.len R1
      have hlive := Lib.hid (K1.live R1)
      have hnums := Lib.hid (K1.nums R1)
      have hpl : S1.pg.length ≤ 4096 := by have := R1.ok.fit; have := R1.ok.q1; omega
      have HF := Lib.hid (And.intro (K1.fit R1) K1.ok)
      have HLL : Hid (S1.live.length ≤ 1000000) := by rw [← hlive.out]; exact K1.live_len R1
      have HAU := Lib.hid R1.audit
      have HSP : Hid (∀ c, S1.spare c = (spareR c L1 : Nat)) := fun c => K1.spare R1 c
      have HNN : Hid (∀ w' : World, Sep No w w' [hpAt hb s, slabR s S1, cellsAt b #[.int .i64 S1.quota, .slice sa L1.length cap] 30, pgRow (.slice sa L1.length cap) L1] → PlRel w q hb s b w') := fun w' hw' => ⟨S1, _, L1, q1.trans HQ.out, R1, K1, rh_shut2 hw'⟩
      obtain ⟨nn, hnn⟩ : ∃ nn, L1.length = nn := ⟨_, rfl⟩
      rw [hnn] at G3 HNN
      clear hx h3 g3' c0 c1 R1 K1 q1
      refine hK.out _ _ HO.out (fun _ => ?_)
      clear hK K
      refine wpAnyH_sub (S2 := fun w' => (w'.cell? ⟨bb, off + j * 2, none⟩ = some (.int .i64 d) ∧ w'.cell? ⟨bb, off + j * 2 + 1, none⟩ = some (.int .i64 n)) ∧ w'.cell? ⟨b, 0, none⟩ = some (.int .i64 S1.quota) ∧ w'.cell? ⟨b, 1, none⟩ = some (.slice sa nn cap)) (fun _ h => h.1) _ _ _ _ ?_
      have hHeld := And.intro (And.intro (G3.out.old C.out.1) (G3.out.old C.out.2)) (And.intro (G3.out.cell 2 rfl 0 (v := .int .i64 S1.quota) rfl).1 (G3.out.cell 2 rfl 1 (v := .slice sa nn cap) rfl).1)
      try simp only [Act.put, List.setIfInBounds_toArray, List.set_cons_zero, List.set_cons_succ]
      refine wpAnyH_takeD (i := 6) (v := ?_) (some 45) rfl (by rfl) (by kernel_rfl) (by kernel_rfl) (by kernel_rfl) (fun _ _ _ h => h) (Or.inl ⟨by rfl, ?_⟩) (by assumption) ?_
      rotate_left
      · intro w hSw
        try dsimp only at hSw
        go_simp
        try with_reducible rfl
      simp only [Act.put, List.setIfInBounds_toArray, List.set_cons_zero, List.set_cons_succ]
      refine wpAnyH_takeD (i := 7) (v := ?_) (some 46) rfl (by rfl) (by kernel_rfl) (by kernel_rfl) (by kernel_rfl) (fun _ _ _ h => h) (Or.inl ⟨by rfl, ?_⟩) (by assumption) ?_
      rotate_left
      · intro w hSw
        try dsimp only at hSw
        go_simp
        try with_reducible rfl
      simp only [Act.put, List.setIfInBounds_toArray, List.set_cons_zero, List.set_cons_succ]
      refine wpAnyH_takeD (i := 8) (v := ?_) (some 47) rfl (by rfl) (by kernel_rfl) (by kernel_rfl) (by kernel_rfl) (fun _ _ _ h => h) (Or.inl ⟨by rfl, ?_⟩) (by assumption) ?_
      rotate_left
      · intro w hSw
        try dsimp only at hSw
        go_simp
        try with_reducible rfl
      simp only [Act.put, List.setIfInBounds_toArray, List.set_cons_zero, List.set_cons_succ]
      refine wpAnyH_takeD (i := 10) (v := ?_) (some 49) rfl (by rfl) (by kernel_rfl) (by kernel_rfl) (by kernel_rfl) (fun _ _ _ h => h) (Or.inl ⟨by rfl, ?_⟩) (by assumption) ?_
      rotate_left
      · intro w hSw
        try dsimp only at hSw
        go_simp
        try with_reducible rfl
      simp only [Act.put, List.setIfInBounds_toArray, List.set_cons_zero, List.set_cons_succ]
      refine wpAnyH_ready (rs := [9]) (by kernel_rfl) (by simp) ?_
      refine AllReadyH.cons rfl (fun K hK => ?_) AllReadyH.nil
      go_simp
      refine (G3.out.hLive 0 1 rfl rfl).mono ?_
      rintro e w4 ⟨v4, rfl, g4⟩
      obtain ⟨sa4, cap4, rfl⟩ := g4.form 4 rfl
      obtain ⟨ll, hll⟩ : ∃ ll, S1.live.length = ll := ⟨_, rfl⟩
      have G4 := Lib.hid g4
      have HL5 := Lib.hid hll
      rw [hll]
      clear g4 hll
      have HX := And.intro (And.intro (G4.out.old C.out.1) (G4.out.old C.out.2)) (And.intro (G4.out.cell 2 rfl 0 (v := .int .i64 S1.quota) rfl).1 (G4.out.cell 2 rfl 1 (v := .slice sa nn cap) rfl).1)
      refine hK.out _ _ HX (fun _ => ?_)
      clear hK K hHeld
      have hHeld := HX
      clear HX
      try simp only [Act.put, List.setIfInBounds_toArray, List.set_cons_zero, List.set_cons_succ]
      refine wpAnyH_ready (rs := [11]) (by kernel_rfl) (by simp) ?_
      refine AllReadyH.cons rfl (fun K hK => ?_) AllReadyH.nil
      go_simp
      refine (rlive_call G4.out 3 S1.quota rfl HF.out.1 HF.out.2).mono ?_
      rintro e w5 ⟨v5, m5, rfl, g5⟩
      obtain ⟨sa5, cap5, rfl⟩ := g5.form 6 rfl
      have G5 := Lib.hid g5
      rw [show (liveR L1).length = ll by rw [hlive.out, HL5.out]]
      clear g5
      have HX := And.intro (And.intro (G5.out.old C.out.1) (G5.out.old C.out.2)) (And.intro (G5.out.cell 2 rfl 0 (v := .int .i64 S1.quota) rfl).1 (G5.out.cell 2 rfl 1 (v := .slice sa nn cap) rfl).1)
      refine hK.out _ _ HX (fun _ => ?_)
      clear hK K hHeld
      have hHeld := HX
      clear HX
      try simp only [Act.put, List.setIfInBounds_toArray, List.set_cons_zero, List.set_cons_succ]
      refine wpAnyH_ready (rs := [12]) (by kernel_rfl) (by simp) ?_
      refine AllReadyH.cons rfl (fun K hK => ?_) AllReadyH.nil
      go_simp
      refine (rsameL (xs := S1.live) (ys := liveR L1) HL5.out hlive.out (by have := G5.out.row 4 rfl; rw [HL5.out] at this ⊢; exact this) (by have := G5.out.row 6 rfl; rw [show (liveR L1).length = ll by rw [hlive.out, HL5.out]] at this ⊢; exact this) (by rw [← HL5.out]; exact HLL.out)).mono ?_
      rintro e w6 ⟨rfl, hm6⟩
      have G6 := Lib.hid (G5.out.more hm6)
      clear hm6
      have HX := And.intro (And.intro (G6.out.old C.out.1) (G6.out.old C.out.2)) (And.intro (G6.out.cell 2 rfl 0 (v := .int .i64 S1.quota) rfl).1 (G6.out.cell 2 rfl 1 (v := .slice sa nn cap) rfl).1)
      refine hK.out _ _ HX (fun _ => ?_)
      clear hK K hHeld
      have hHeld := HX
      clear HX
      try simp only [Act.put, List.setIfInBounds_toArray, List.set_cons_zero, List.set_cons_succ]
      refine wpAnyH_takeD (i := 13) (v := ?_) (some 52) rfl (by rfl) (by kernel_rfl) (by kernel_rfl) (by kernel_rfl) (fun _ _ _ h => h) (Or.inl ⟨by rfl, ?_⟩) (by assumption) ?_
      rotate_left
      · intro w hSw
        try dsimp only at hSw
        go_simp
        try with_reducible rfl
      simp only [Act.put, List.setIfInBounds_toArray, List.set_cons_zero, List.set_cons_succ]
      refine wpAnyH_takeD (i := 14) (v := ?_) (some 53) rfl (by rfl) (by kernel_rfl) (by kernel_rfl) (by kernel_rfl) (fun _ _ _ h => h) (Or.inl ⟨by rfl, ?_⟩) (by assumption) ?_
      rotate_left
      · intro w hSw
        try dsimp only at hSw
        go_simp
        try with_reducible rfl
      simp only [Act.put, List.setIfInBounds_toArray, List.set_cons_zero, List.set_cons_succ]
      refine wpAnyH_takeD (i := 15) (v := ?_) (some 54) rfl (by rfl) (by kernel_rfl) (by kernel_rfl) (by kernel_rfl) (fun _ _ _ h => h) (Or.inl ⟨by rfl, ?_⟩) (by assumption) ?_
      rotate_left
      · intro w hSw
        try dsimp only at hSw
        go_simp
        try with_reducible rfl
      simp only [Act.put, List.setIfInBounds_toArray, List.set_cons_zero, List.set_cons_succ]
      refine wpAnyH_takeD (i := 16) (v := ?_) (some 55) rfl (by rfl) (by kernel_rfl) (by kernel_rfl) (by kernel_rfl) (fun _ _ _ h => h) (Or.inl ⟨by rfl, ?_⟩) (by assumption) ?_
      rotate_left
      · intro w hSw
        try dsimp only at hSw
        go_simp
        try with_reducible rfl
      simp only [Act.put, List.setIfInBounds_toArray, List.set_cons_zero, List.set_cons_succ]
      refine wpAnyH_takeD (i := 18) (v := ?_) (some 57) rfl (by rfl) (by kernel_rfl) (by kernel_rfl) (by kernel_rfl) (fun _ _ _ h => h) (Or.inl ⟨by rfl, ?_⟩) (by assumption) ?_
      rotate_left
      · intro w hSw
        try dsimp only at hSw
        go_simp
        try with_reducible rfl
      simp only [Act.put, List.setIfInBounds_toArray, List.set_cons_zero, List.set_cons_succ]
      refine wpAnyH_ready (rs := [17]) (by kernel_rfl) (by simp) ?_
      refine AllReadyH.cons rfl (fun K hK => ?_) AllReadyH.nil
      go_simp
      refine (G6.out.sPages 1 rfl).mono ?_
      rintro e w7 ⟨v7, rfl, g7⟩
      obtain ⟨sa7, cap7, rfl⟩ := g7.form 7 rfl
      obtain ⟨pl, hplv⟩ : ∃ pl, (S1.pg.map fun k : Nat => (k : Int)).length = pl := ⟨_, rfl⟩
      have G7 := Lib.hid g7
      have HPL := Lib.hid hplv
      rw [hplv]
      clear g7 hplv
      have HX := And.intro (And.intro (G7.out.old C.out.1) (G7.out.old C.out.2)) (And.intro (G7.out.cell 2 rfl 0 (v := .int .i64 S1.quota) rfl).1 (G7.out.cell 2 rfl 1 (v := .slice sa nn cap) rfl).1)
      refine hK.out _ _ HX (fun _ => ?_)
      clear hK K hHeld
      have hHeld := HX
      clear HX
      try simp only [Act.put, List.setIfInBounds_toArray, List.set_cons_zero, List.set_cons_succ]
      refine wpAnyH_ready (rs := [19]) (by kernel_rfl) (by simp) ?_
      refine AllReadyH.cons rfl (fun K hK => ?_) AllReadyH.nil
      go_simp
      refine (rnum_call G7.out 3 S1.quota rfl HF.out.1).mono ?_
      rintro e w8 ⟨v8, m8, rfl, g8⟩
      obtain ⟨sa8, cap8, rfl⟩ := g8.form 9 rfl
      have G8 := Lib.hid g8
      rw [show (numR L1).length = pl by rw [hnums.out, HPL.out]]
      clear g8
      have HX := And.intro (And.intro (G8.out.old C.out.1) (G8.out.old C.out.2)) (And.intro (G8.out.cell 2 rfl 0 (v := .int .i64 S1.quota) rfl).1 (G8.out.cell 2 rfl 1 (v := .slice sa nn cap) rfl).1)
      refine hK.out _ _ HX (fun _ => ?_)
      clear hK K hHeld
      have hHeld := HX
      clear HX
      try simp only [Act.put, List.setIfInBounds_toArray, List.set_cons_zero, List.set_cons_succ]
      refine wpAnyH_ready (rs := [20]) (by kernel_rfl) (by simp) ?_
      refine AllReadyH.cons rfl (fun K hK => ?_) AllReadyH.nil
      go_simp
      refine (rsameL (xs := S1.pg.map fun k : Nat => (k : Int)) (ys := numR L1) HPL.out hnums.out (by have := G8.out.row 7 rfl; rw [HPL.out] at this ⊢; exact this) (by have := G8.out.row 9 rfl; rw [show (numR L1).length = pl by rw [hnums.out, HPL.out]] at this ⊢; exact this) (by rw [← HPL.out, List.length_map]; omega)).mono ?_
      rintro e w9 ⟨rfl, hm9⟩
      have G9 := Lib.hid (G8.out.more hm9)
      clear hm9
      have HX := And.intro (And.intro (G9.out.old C.out.1) (G9.out.old C.out.2)) (And.intro (G9.out.cell 2 rfl 0 (v := .int .i64 S1.quota) rfl).1 (G9.out.cell 2 rfl 1 (v := .slice sa nn cap) rfl).1)
      refine hK.out _ _ HX (fun _ => ?_)
      clear hK K hHeld
      have hHeld := HX
      clear HX
      try simp only [Act.put, List.setIfInBounds_toArray, List.set_cons_zero, List.set_cons_succ]
      refine wpAnyH_takeD (i := 21) (v := ?_) (some 60) rfl (by rfl) (by kernel_rfl) (by kernel_rfl) (by kernel_rfl) (fun _ _ _ h => h) (Or.inl ⟨by rfl, ?_⟩) (by assumption) ?_
      rotate_left
      · intro w hSw
        try dsimp only at hSw
        go_simp
        try with_reducible rfl
      simp only [Act.put, List.setIfInBounds_toArray, List.set_cons_zero, List.set_cons_succ]
      refine wpAnyH_takeD (i := 22) (v := ?_) (some 61) rfl (by rfl) (by kernel_rfl) (by kernel_rfl) (by kernel_rfl) (fun _ _ _ h => h) (Or.inl ⟨by rfl, ?_⟩) (by assumption) ?_
      rotate_left
      · intro w hSw
        try dsimp only at hSw
        go_simp
        try with_reducible rfl
      simp only [Act.put, List.setIfInBounds_toArray, List.set_cons_zero, List.set_cons_succ]
      refine wpAnyH_takeD (i := 23) (v := ?_) (some 62) rfl (by rfl) (by kernel_rfl) (by kernel_rfl) (by kernel_rfl) (fun _ _ _ h => h) (Or.inl ⟨by rfl, ?_⟩) (by assumption) ?_
      rotate_left
      · intro w hSw
        try dsimp only at hSw
        go_simp
        try with_reducible rfl
      simp only [Act.put, List.setIfInBounds_toArray, List.set_cons_zero, List.set_cons_succ]
      refine wpAnyH_takeD (i := 24) (v := ?_) (some 63) rfl (by rfl) (by kernel_rfl) (by kernel_rfl) (by kernel_rfl) (fun _ _ _ h => h) (Or.inl ⟨by rfl, ?_⟩) (by assumption) ?_
      rotate_left
      · intro w hSw
        try dsimp only at hSw
        go_simp
        try with_reducible rfl
      simp only [Act.put, List.setIfInBounds_toArray, List.set_cons_zero, List.set_cons_succ]
      refine wpAnyH_ready (rs := [25]) (by kernel_rfl) (by simp) ?_
      refine AllReadyH.cons rfl (fun K hK => ?_) AllReadyH.nil
      go_simp
      refine (G9.out.hAudit 0 1 rfl rfl).mono ?_
      rintro e w10 ⟨rfl, hm10⟩
      have G10 := Lib.hid (G9.out.more hm10)
      rw [HAU.out]
      clear hm10
      have HX := And.intro (And.intro (G10.out.old C.out.1) (G10.out.old C.out.2)) (And.intro (G10.out.cell 2 rfl 0 (v := .int .i64 S1.quota) rfl).1 (G10.out.cell 2 rfl 1 (v := .slice sa nn cap) rfl).1)
      refine hK.out _ _ HX (fun _ => ?_)
      clear hK K hHeld
      have hHeld := HX
      clear HX
      try simp only [Act.put, List.setIfInBounds_toArray, List.set_cons_zero, List.set_cons_succ]
      refine wpAnyH_takeD (i := 26) (v := ?_) (some 65) rfl (by rfl) (by kernel_rfl) (by kernel_rfl) (by kernel_rfl) (fun _ _ _ h => h) (Or.inl ⟨by rfl, ?_⟩) (by assumption) ?_
      rotate_left
      · intro w hSw
        try dsimp only at hSw
        go_simp
        try with_reducible rfl
      simp only [Act.put, List.setIfInBounds_toArray, List.set_cons_zero, List.set_cons_succ]
      refine wpAnyH_takeD (i := 27) (v := ?_) (some 66) rfl (by rfl) (by kernel_rfl) (by kernel_rfl) (by kernel_rfl) (fun _ _ _ h => h) (Or.inl ⟨by rfl, ?_⟩) (by assumption) ?_
      rotate_left
      · intro w hSw
        try dsimp only at hSw
        go_simp
        try with_reducible rfl
      simp only [Act.put, List.setIfInBounds_toArray, List.set_cons_zero, List.set_cons_succ]
      refine wpAnyH_done (by kernel_rfl) ?_ _
      have HG : Hid (Sep No w w10 [hpAt hb s, slabR s S1, cellsAt b #[.int .i64 S1.quota, .slice sa nn cap] 30, pgRow (.slice sa nn cap) L1]) := Sep.left (Ps := [_, _, _, _]) G10.out
      clear hHeld G3 G4 G5 G6 G7 G8 G9 G10
      go_wp2_with fail
      go_loopw [10] (fun cv wx => ∃ c : Int, cv = .int .i64 c ∧ -1 ≤ c ∧ c ≤ 9 ∧ Sep No w wx [hpAt hb s, slabR s S1, cellsAt b #[.int .i64 S1.quota, .slice sa nn cap] 30, pgRow (.slice sa nn cap) L1]) (fun cv _ => (9 - RowKit.intOf cv).toNat)
      case atStart => exact ⟨-1, rfl, by omega, by omega, HG.out⟩
      case round =>
        obtain ⟨c, rfl, hc0, hc9, g⟩ := hrel
        clear HG
        by_cases hc8 : c ≤ 8
        · have dc : decide (c ≤ 8) = true := leT hc8
          have b0 := (g.drew.cell 2 rfl 0 (v := .int .i64 S1.quota) rfl).1
          have b1 := (g.drew.cell 2 rfl 1 (v := .slice sa nn cap) rfl).1
          have hsp := g.drew.hSpare 0 1 rfl rfl c
          rw [HSP.out c] at hsp
          obtain ⟨sv, hsv⟩ : ∃ sv : Nat, spareR c L1 = sv := ⟨_, rfl⟩
          have HSV := Lib.hid hsv
          rw [hsv] at hsp
          have HGd := Lib.hid g.drew
          clear g hsv
          go_wp2_with fail
          refine wp_region_held_drew (S := fun w' => w'.cell? ⟨b, 0, none⟩ = some (.int .i64 S1.quota) ∧ w'.cell? ⟨b, 1, none⟩ = some (.slice sa nn cap)) (by kernel_rfl) ⟨b0, b1⟩ (fun hHeld => ?_)
          refine wpAnyH_takeD (i := 0) (v := ?_) (some 71) rfl (by rfl) (by kernel_rfl) (by kernel_rfl) (by kernel_rfl) (fun _ _ _ h => h) (Or.inl ⟨by rfl, ?_⟩) (by assumption) ?_
          rotate_left
          · intro w hSw
            try dsimp only at hSw
            go_simp
            try with_reducible rfl
          simp only [Act.put, List.setIfInBounds_toArray, List.set_cons_zero, List.set_cons_succ]
          refine wpAnyH_takeD (i := 1) (v := ?_) (some 72) rfl (by rfl) (by kernel_rfl) (by kernel_rfl) (by kernel_rfl) (fun _ _ _ h => h) (Or.inl ⟨by rfl, ?_⟩) (by assumption) ?_
          rotate_left
          · intro w hSw
            try dsimp only at hSw
            go_simp
            try with_reducible rfl
          simp only [Act.put, List.setIfInBounds_toArray, List.set_cons_zero, List.set_cons_succ]
          refine wpAnyH_takeD (i := 3) (v := ?_) (some 74) rfl (by rfl) (by kernel_rfl) (by kernel_rfl) (by kernel_rfl) (fun _ _ _ h => h) (Or.inl ⟨by rfl, ?_⟩) (by assumption) ?_
          rotate_left
          · intro w hSw
            try dsimp only at hSw
            go_simp
            try with_reducible rfl
          simp only [Act.put, List.setIfInBounds_toArray, List.set_cons_zero, List.set_cons_succ]
          refine wpAnyH_takeD (i := 4) (v := ?_) (some 75) rfl (by rfl) (by kernel_rfl) (by kernel_rfl) (by kernel_rfl) (fun _ _ _ h => h) (Or.inl ⟨by rfl, ?_⟩) (by assumption) ?_
          rotate_left
          · intro w hSw
            try dsimp only at hSw
            go_simp
            try with_reducible rfl
          simp only [Act.put, List.setIfInBounds_toArray, List.set_cons_zero, List.set_cons_succ]
          refine wpAnyH_ready (rs := [2]) (by kernel_rfl) (by simp) ?_
          refine AllReadyH.cons rfl (fun K hK => ?_) AllReadyH.nil
          go_simp
          refine (hsp).mono ?_
          rintro e w11 ⟨rfl, hm11⟩
          have H11 := Lib.hid (HGd.out.more hm11)
          clear hm11 hsp
          have HX := And.intro (H11.out.cell 2 rfl 0 (v := .int .i64 S1.quota) rfl).1 (H11.out.cell 2 rfl 1 (v := .slice sa nn cap) rfl).1
          refine hK.out _ _ HX (fun _ => ?_)
          clear hK K hHeld
          have hHeld := HX
          clear HX
          try simp only [Act.put, List.setIfInBounds_toArray, List.set_cons_zero, List.set_cons_succ]
          refine wpAnyH_ready (rs := [5]) (by kernel_rfl) (by simp) ?_
          refine AllReadyH.cons rfl (fun K hK => ?_) AllReadyH.nil
          go_simp
          refine (rspare_call H11.out 3 S1.quota rfl HF.out.1 HF.out.2 c).mono ?_
          rintro e w12 ⟨rfl, hm12⟩
          have H12 := Lib.hid (H11.out.more hm12)
          rw [HSV.out]
          clear hm12
          have HX := And.intro (H12.out.cell 2 rfl 0 (v := .int .i64 S1.quota) rfl).1 (H12.out.cell 2 rfl 1 (v := .slice sa nn cap) rfl).1
          refine hK.out _ _ HX (fun _ => ?_)
          clear hK K hHeld
          have hHeld := HX
          clear HX
          try simp only [Act.put, List.setIfInBounds_toArray, List.set_cons_zero, List.set_cons_succ]
          refine wpAnyH_takeD (i := 6) (v := ?_) (some 77) rfl (by rfl) (by kernel_rfl) (by kernel_rfl) (by kernel_rfl) (fun _ _ _ h => h) (Or.inl ⟨by rfl, ?_⟩) (by assumption) ?_
          rotate_left
          · intro w hSw
            try dsimp only at hSw
            go_simp
            try with_reducible rfl
          simp only [Act.put, List.setIfInBounds_toArray, List.set_cons_zero, List.set_cons_succ]
          refine wpAnyH_done (by kernel_rfl) ?_ _
          clear hHeld H11 HGd b0 b1
          have e1 : IntKind.i64.wrap (c + 1) = c + 1 := by rw [IntKind.wrap_i64]; omega
          go_wp2
          go_roundw
          case rel => exact ⟨c + 1, by first | rfl | go_num, by omega, by omega, H12.out⟩
          case measure => (simp [RowKit.intOf]; try omega)
        · have dc : decide (c ≤ 8) = false := leF (by omega)
          have HGG := Lib.hid (HNN.out _ g)
          clear g
          go_wp2
          go_roundw
          case rel => exact ⟨j + 1, by go_num, by omega, HGG.out⟩
          case measure => (simp [RowKit.intOf]; try omega)
    · obtain rfl : j = len1 := by omega
      have H9 := Lib.hid h
      clear hlt hR hK h
      go_wp2_with fail
      refine (awake_call _ (HT.out.mod H9.out.mod)).mono ?_
      rintro e w6 ⟨rfl, hm⟩
      have H10 := Lib.hid (H9.out.more hm)
      clear hm
      go_wp2
      go_ret
      exact ⟨rfl, H10.out.below⟩

set_option maxRecDepth 100000 in
theorem heapPlays_walk (a0 : Int) (s1 : Option Addr) (len1 cap1 : Nat) (z1 : List (List Int)) (w : World) (_w0 : (Lit.int .i64 a0).wf = true) (R : Recs w s1 len1 [some .i64, some .i64] z1) (hT : Tab64 w) :
    Calls Tryz.prog 3 #[.int .i64 a0, .slice s1 len1 cap1] w fun e w' => e = .returned (.bool true) ∧ Below w.heap.size w w' := by
  by_cases hall : (0 ≤ a0 ∧ a0 ≤ 4000) ∧ len1 ≤ 80
  · exact hplays_in a0 s1 len1 cap1 z1 w hall.1 R hall.2 hT
  · have ha := awake_call w hT
    by_cases h1 : a0 < 0
    · have d1 : decide (a0 < 0) = true := ltT h1
      clear hT h1 hall
      clear R
      go_enter Tryz.func3, Tryz.ntmps3
      go_wp2_with fail
      refine ha.mono ?_
      rintro e w' ⟨rfl, hb⟩
      have H9 := Lib.hid hb
      clear ha hb
      go_wp2
      go_ret
      exact ⟨rfl, H9.out.below _ (Nat.le_refl _) (fun _ _ x => x)⟩
    have d1 : decide (a0 < 0) = false := ltF (by omega)
    by_cases h2 : 4000 < a0
    · have d2 : decide (4000 < a0) = true := ltT h2
      clear hT h1 h2 hall
      clear R
      go_enter Tryz.func3, Tryz.ntmps3
      go_wp2_with fail
      refine ha.mono ?_
      rintro e w' ⟨rfl, hb⟩
      have H9 := Lib.hid hb
      clear ha hb
      go_wp2
      go_ret
      exact ⟨rfl, H9.out.below _ (Nat.le_refl _) (fun _ _ x => x)⟩
    have d2 : decide (4000 < a0) = false := ltF (by omega)
    have d30 : decide ((80 : Int) < (len1 : Int)) = true := ltT (by omega)
    clear hT h1 h2 hall
    clear R
    go_enter Tryz.func3, Tryz.ntmps3
    go_wp2_with fail
    refine ha.mono ?_
    rintro e w' ⟨rfl, hb⟩
    have H9 := Lib.hid hb
    clear ha hb
    go_wp2
    go_ret
    exact ⟨rfl, H9.out.below _ (Nat.le_refl _) (fun _ _ x => x)⟩
end Go.Proofs.YtpcomekikeoliaaGreatDoor
