/- The reference of layer 4 (loftref04): spot, Room, Spare, walked. Conditions: the pages in memory are as said. -/
import Derived.Test.YtfmkiioahnphbaaDoorRef04C
set_option linter.unusedVariables false
set_option linter.unusedSimpArgs false
set_option maxRecDepth 100000
namespace Go.Proofs.YtfmkiioahnphbaaDoor
open Go Go.RowKit

variable {F0 : Nat → Prop} {w0 w : World} {Ps : List Res}

def FullBef (L : List RPg) (c i : Nat) : Prop := ∀ (j : Nat) P k, j < i → L[j]? = some P → P.lg = false → P.cls = c → k < P.slots → P.bits.testBit k = true
def SpotY (L : List RPg) (c i k : Nat) : Prop := ∃ P, L[i]? = some P ∧ P.lg = false ∧ P.cls = c ∧ k < P.slots ∧ P.bits.testBit k = false ∧ (∀ k', k' < k → P.bits.testBit k' = true) ∧ FullBef L c i
def SpotN (L : List RPg) (c : Nat) : Prop := FullBef L c L.length


set_option maxRecDepth 100000 in
set_option maxHeartbeats 2000000 in
theorem rspot_call (h : Sep F0 w0 w Ps) (r : Nat) (q : Int) {v : Value} {L : List RPg} (hr : Ps[r]? = some (pgRow v L)) (hF : Fit4 L) (hO : ∀ P ∈ L, P.Ok) (c : Nat) (hc8 : c < 8) :
    Calls Tryd.prog 56 #[.agg #[.int .i64 q, v], .int .i64 (c : Nat)] w fun e w' => ((∃ i k : Nat, e = .returned (.tuple #[.int .i64 (i : Nat), .int .i64 (k : Nat)]) ∧ SpotY L c i k) ∨ (e = .returned (.tuple #[.int .i64 (-1), .int .i64 0]) ∧ SpotN L c)) ∧ Mod No w w' := by
  obtain ⟨sa, cap, rfl⟩ := h.form r hr
  have HR := Lib.hid hr
  have HF := Lib.hid (And.intro hF hO)
  obtain ⟨hB, b0, b1, hmB⟩ := hv_box h q (.slice sa L.length cap)
  obtain ⟨m, hmm⟩ : ∃ m, w.heap.size = m := ⟨_, rfl⟩
  obtain ⟨W, hW⟩ : ∃ W, w.alloc (.cells #[.int .i64 q, .slice sa L.length cap] 46) = W := ⟨_, rfl⟩
  rw [hmm] at b0 b1
  rw [hW] at hB b0 b1 hmB
  obtain ⟨n, hn⟩ : ∃ n, L.length = n := ⟨_, rfl⟩
  have HN := Lib.hid hn
  have HMB := Lib.hid hmB
  have HB := Lib.hid hB
  rw [hn] at b1 hW
  clear h hB hmB
  have hl := hF.len
  rw [hn] at hl
  clear hr hF hn hO
  rw [HN.out]
  go_enter Tryd.func56, Tryd.ntmps56
  go_wp2_with fail
  go_loopw [6] (fun iv wr => ∃ i : Nat, i ≤ n ∧ iv = .int .i64 i ∧ Mod No W wr ∧ FullBef L c i) (fun iv _ => n + 1 - (RowKit.intOf iv).toNat)
  case atStart => exact ⟨0, Nat.zero_le _, rfl, Mod.refl _ _, fun j P k hj => absurd hj (by omega)⟩
  case round =>
    obtain ⟨i, hi, rfl, hMr, hbef⟩ := hrel
    have c1 := hMr.cell b1 (fun x => x)
    have HMr := Lib.hid (And.intro hMr hbef)
    clear hMr hbef
    by_cases hlt : i < n
    · obtain ⟨P, hP⟩ : ∃ P, L[i]? = some P := ⟨_, List.getElem?_eq_getElem (by rw [HN.out]; exact hlt)⟩
      have hPm := List.mem_of_getElem? hP
      obtain ⟨g, rfl, _, _, hA, _⟩ := p4at (HB.out.more HMr.out.1) r HR.out hP
      have hPO := HF.out.2 P hPm
      have hsl := hPO.slots_le
      obtain ⟨C, hC⟩ : ∃ C, P.cells.toArray = C := ⟨_, rfl⟩
      have HC := Lib.hid hC
      have hV : PgV P C := ⟨hC.symm⟩
      have HP := Lib.hid (And.intro hP (And.intro hPO (And.intro hA hV)))
      obtain ⟨sl, hsle⟩ : ∃ sl, P.slots = sl := ⟨_, rfl⟩
      have HSL := Lib.hid hsle
      rw [hsle] at hsl
      have a4 := hA.c4
      have a2 := hA.c2
      clear hA hP hPm hPO hC hV hsle c1
      have c1 := HMr.out.1.cell b1 (fun x => x)
      cases hlg : P.lg with
      | true =>
        rw [hlg] at a4
        have HB2 : Hid (FullBef L c (i + 1)) := fun j P' k' hj hP' h1 h2 h3 => by
          by_cases e : j = i
          · subst e
            rw [HP.out.1] at hP'
            cases hP'
            rw [hlg] at h1; cases h1
          · exact HMr.out.2 j P' k' (by omega) hP' h1 h2 h3
        clear hlg
        go_wp2
        go_roundw
        case rel => exact ⟨i + 1, by omega, by go_num, HMr.out.1, HB2.out⟩
        case measure => (simp [RowKit.intOf]; try omega)
      | false =>
        rw [hlg] at a4
        have HLG := Lib.hid hlg
        by_cases hcl : P.cls = c
        · have dc : ((P.cls : Int) != (c : Int)) = false := bneF (by omega)
          have HCL := Lib.hid hcl
          clear hcl hlg
          go_wp2_with fail
          go_loopw [7] (fun kv wx => ∃ k : Nat, k ≤ sl ∧ kv = .int .i64 k ∧ Mod No wr wx ∧ ∀ k', k' < k → P.bits.testBit k' = true) (fun kv _ => sl + 1 - (RowKit.intOf kv).toNat)
          case atStart => exact ⟨0, Nat.zero_le _, rfl, Mod.refl _ _, fun k' hk => absurd hk (by omega)⟩
          case round =>
            obtain ⟨k, hk, rfl, hMx, hbk⟩ := hrel
            have c1 := hMx.cell c1 (fun x => x)
            have hAx := HP.out.2.2.1.mod hMx
            have hld : Hid (wr.rangeAt g (i * 36) P.cells) := hAx.all
            have hs := rslots_call HP.out.2.2.2 HP.out.2.1 wr
            rw [HSL.out] at hs
            have HMx := Lib.hid (And.intro hMx hbk)
            clear hMx hbk a4 a2
            go_wp2_with (first | (refine wpList_load_mid_g (by rfl) 101 _ (by rfl) g (i * 36) (by rfl) P.cells _ hld.out Tryd.underlying101 rfl (p4_size P) ?_; rw [HC.out]))
            refine hs.mono ?_
            rintro e w2 ⟨rfl, hm2⟩
            have HM2 := Lib.hid (HMx.out.1.trans' hm2)
            clear hs hm2 c1 hAx hld
            by_cases hkl : k < sl
            · have hA2 := HP.out.2.2.1.mod HM2.out
              have c1 := HM2.out.cell c1 (fun x => x)
              have cb := hA2.cb k (by omega)
              have hk31 : (k : Int) < 31 := by omega
              have hk31n : k < 31 := by omega
              cases hbit : P.bits.testBit k with
              | true =>
                rw [hbit] at cb
                have HB2 : Hid (∀ k', k' < k + 1 → P.bits.testBit k' = true) := fun k' hk' => by
                  by_cases e : k' = k
                  · subst e; exact hbit
                  · exact HMx.out.2 k' (by omega)
                clear hA2 hbit
                go_wp2
                go_roundw
                case rel => exact ⟨k + 1, by omega, by go_num, HM2.out, HB2.out⟩
                case measure => (simp [RowKit.intOf]; try omega)
              | false =>
                rw [hbit] at cb
                have HY : Hid (SpotY L c i k) := ⟨P, HP.out.1, HLG.out, HCL.out, by rw [HSL.out]; exact hkl, hbit, HMx.out.2, HMr.out.2⟩
                clear hA2 hbit
                go_wp2
                go_ret2
                exact ⟨.inl ⟨i, k, rfl, HY.out⟩, HMB.out.trans' (HMr.out.1.trans' HM2.out)⟩
            · obtain rfl : k = sl := by omega
              have HB2 : Hid (FullBef L c (i + 1)) := fun j P' k' hj hP' h1 h2 h3 => by
                by_cases e : j = i
                · subst e
                  rw [HP.out.1] at hP'
                  cases hP'
                  exact HMx.out.2 k' (by rw [← HSL.out]; exact h3)
                · exact HMr.out.2 j P' k' (by omega) hP' h1 h2 h3
              clear hkl
              go_wp2
              go_roundw
              case rel => exact ⟨i + 1, by omega, by go_num, HMr.out.1.trans' HM2.out, HB2.out⟩
              case measure => (simp [RowKit.intOf]; try omega)
        · have dc : ((P.cls : Int) != (c : Int)) = true := bneT (by omega)
          have HB2 : Hid (FullBef L c (i + 1)) := fun j P' k' hj hP' h1 h2 h3 => by
            by_cases e : j = i
            · subst e
              rw [HP.out.1] at hP'
              cases hP'
              exact absurd h2 hcl
            · exact HMr.out.2 j P' k' (by omega) hP' h1 h2 h3
          clear hlg hcl
          go_wp2
          go_roundw
          case rel => exact ⟨i + 1, by omega, by go_num, HMr.out.1, HB2.out⟩
          case measure => (simp [RowKit.intOf]; try omega)
    · obtain rfl : i = n := by omega
      have HY : Hid (SpotN L c) := by
        unfold SpotN
        rw [HN.out]
        exact HMr.out.2
      clear hlt
      go_wp2
      go_ret2
      exact ⟨.inr ⟨rfl, HY.out⟩, HMB.out.trans' HMr.out.1⟩

/-- What a block's room is. -/
def RPg.room (P : RPg) : Int := if P.lg = true then P.wds else ((csz P.cls : Nat) : Int)
set_option maxRecDepth 100000 in
set_option maxHeartbeats 2000000 in
theorem rroom_call (h : Sep F0 w0 w Ps) (r : Nat) (q : Int) {v : Value} {L : List RPg} (hr : Ps[r]? = some (pgRow v L)) (hF : Fit4 L) (hO : ∀ P ∈ L, P.Ok) (a : Int) :
    Calls Tryd.prog 34 #[.agg #[.int .i64 q, v], .int .i64 a] w fun e w' => ((∃ (i k : Nat) (P : RPg), L[i]? = some P ∧ FindY L a i k ∧ e = .returned (.tuple #[.int .i64 P.room, .int .i64 0])) ∨ (e = .returned (.tuple #[.int .i64 0, .int .i64 5]) ∧ FindN L a)) ∧ Mod No w w' := by
  obtain ⟨sa, cap, rfl⟩ := h.form r hr
  have HR := Lib.hid hr
  have HF := Lib.hid (And.intro hF hO)
  obtain ⟨hB, b0, b1, hmB⟩ := hv_box h q (.slice sa L.length cap)
  obtain ⟨m, hmm⟩ : ∃ m, w.heap.size = m := ⟨_, rfl⟩
  obtain ⟨W, hW⟩ : ∃ W, w.alloc (.cells #[.int .i64 q, .slice sa L.length cap] 46) = W := ⟨_, rfl⟩
  rw [hmm] at b0 b1
  rw [hW] at hB b0 b1 hmB
  obtain ⟨n, hn⟩ : ∃ n, L.length = n := ⟨_, rfl⟩
  have HN := Lib.hid hn
  have HMB := Lib.hid hmB
  have HB := Lib.hid hB
  rw [hn] at b1 hW
  clear h hB hmB
  have hl := hF.len
  rw [hn] at hl
  have hfi := rfind_call HB.out r q HR.out HF.out.1 HF.out.2 a
  rw [hn] at hfi
  clear hr hF hn hO
  rw [HN.out]
  go_enter Tryd.func34, Tryd.ntmps34
  go_wp2_with fail
  refine hfi.mono ?_
  rintro e w2 ⟨hc, hm2⟩
  have HM2 := Lib.hid hm2
  clear hfi hm2
  rcases hc with ⟨i, k, rfl, hY⟩ | ⟨rfl, hNo⟩
  · have HY := Lib.hid hY
    obtain ⟨P, hP, _⟩ := hY
    have hPm := List.mem_of_getElem? hP
    have hPO := HF.out.2 P hPm
    obtain ⟨g, rfl, hin, _, hA, _⟩ := p4at (HB.out.more HM2.out) r HR.out hP
    rw [HN.out] at hin
    have b1 := HM2.out.cell b1 (fun x => x)
    have c4 := hA.c4
    have c3 := hA.c3
    have c2 := hA.c2
    have HP := Lib.hid (And.intro hP hPO)
    have hi0 : decide ((i : Int) < 0) = false := ltF (by omega)
    have hii : (i : Int) < (n : Int) := by omega
    obtain ⟨rm, hrm⟩ : ∃ rm, P.room = rm := ⟨_, rfl⟩
    have HRM := Lib.hid hrm
    cases hlg : P.lg with
    | true =>
      rw [hlg] at c4
      have e : P.room = P.wds := by unfold RPg.room; rw [if_pos hlg]
      rw [e] at hrm
      rw [hrm] at c3
      clear hP hPm hPO hA hlg e hrm
      go_wp2
      go_ret2
      exact ⟨.inl ⟨i, k, P, HP.out.1, HY.out, by rw [HRM.out]; rfl⟩, HMB.out.trans' HM2.out⟩
    | false =>
      rw [hlg] at c4
      have e : P.room = ((csz P.cls : Nat) : Int) := by unfold RPg.room; rw [if_neg (by rw [hlg]; decide)]
      have hc8 := (hPO.cls8 hlg).1
      have HSC : Hid (∀ W' : World, (W'.alloc (.cells szA 3)).cell? ⟨W'.heap.size, P.cls, none⟩ = some (.int .i64 rm)) := fun W' => by
        rw [← hrm, e]
        exact szA_cell W' hc8
      have hci : (P.cls : Int) < 8 := by omega
      clear hP hPm hPO hA hlg e hrm c3
      go_wp2_with fail
      refine wp_region_held_drew (S := fun w' => w'.cell? ⟨m, 1, none⟩ = some (.slice (some ⟨g, 0, none⟩) n cap) ∧ w'.cell? ⟨g, i * 36 + 2, none⟩ = some (.int .i64 P.cls)) (by kernel_rfl) ⟨b1, c2⟩ (fun hHeld => ?_)
      refine wpAnyH_takeD (i := 1) (v := ?_) (some 29) rfl (by rfl) (by kernel_rfl) (by kernel_rfl) (by kernel_rfl) (fun _ _ _ h => h) (Or.inl ⟨by rfl, ?_⟩) (by assumption) ?_
      rotate_left
      · intro w hSw
        try dsimp only at hSw
        go_simp
        try with_reducible rfl
      simp only [Act.put, List.setIfInBounds_toArray, List.set_cons_zero, List.set_cons_succ]
      refine wpAnyH_takeD (i := 2) (v := ?_) (some 30) rfl (by rfl) (by kernel_rfl) (by kernel_rfl) (by kernel_rfl) (fun _ _ _ h => h) (Or.inl ⟨by rfl, ?_⟩) (by assumption) ?_
      rotate_left
      · intro w hSw
        try dsimp only at hSw
        go_simp
        try with_reducible rfl
      simp only [Act.put, List.setIfInBounds_toArray, List.set_cons_zero, List.set_cons_succ]
      refine wpAnyH_takeD (i := 3) (v := ?_) (some 31) rfl (by rfl) (by kernel_rfl) (by kernel_rfl) (by kernel_rfl) (fun _ _ _ h => h) (Or.inl ⟨by rfl, ?_⟩) (by assumption) ?_
      rotate_left
      · intro w hSw
        try dsimp only at hSw
        go_simp
        try with_reducible rfl
      simp only [Act.put, List.setIfInBounds_toArray, List.set_cons_zero, List.set_cons_succ]
      refine wpAnyH_takeD (i := 4) (v := ?_) (some 32) rfl (by rfl) (by kernel_rfl) (by kernel_rfl) (by kernel_rfl) (fun _ _ _ h => h) (Or.inl ⟨by rfl, ?_⟩) (by assumption) ?_
      rotate_left
      · intro w hSw
        try dsimp only at hSw
        go_simp
        try with_reducible rfl
      simp only [Act.put, List.setIfInBounds_toArray, List.set_cons_zero, List.set_cons_succ]
      refine wpAnyH_takeD (i := 5) (v := ?_) (some 33) rfl (by rfl) (by kernel_rfl) (by kernel_rfl) (by kernel_rfl) (fun _ _ _ h => h) (Or.inl ⟨by rfl, ?_⟩) (by assumption) ?_
      rotate_left
      · intro w hSw
        try dsimp only at hSw
        go_simp
        try with_reducible rfl
      simp only [Act.put, List.setIfInBounds_toArray, List.set_cons_zero, List.set_cons_succ]
      refine wpAnyH_takeD (i := 6) (v := ?_) (some 34) rfl (by rfl) (by kernel_rfl) (by kernel_rfl) (by kernel_rfl) (fun _ _ _ h => h) (Or.inl ⟨by rfl, ?_⟩) (by assumption) ?_
      rotate_left
      · intro w hSw
        try dsimp only at hSw
        go_simp
        try with_reducible rfl
      simp only [Act.put, List.setIfInBounds_toArray, List.set_cons_zero, List.set_cons_succ]
      refine wpAnyH_ready (rs := [0]) (by kernel_rfl) (by simp) ?_
      refine AllReadyH.cons rfl (fun K hK => ?_) AllReadyH.nil
      go_simp
      refine (rsizes_call _).mono ?_
      rintro e w3 ⟨rfl, hw3⟩
      have hq := HSC.out w2.drew
      rw [hw3] at hq
      have hm3 : Mod No w2 w3 := by rw [← hw3]; exact (Mod.refl No w2).drew.alloc _
      have hO := And.intro (hm3.cell b1 (fun x => x)) (hm3.cell c2 (fun x => x))
      have HM3 := Lib.hid (HM2.out.trans' hm3)
      obtain ⟨M, hM⟩ : ∃ M, w2.drew.heap.size = M := ⟨_, rfl⟩
      rw [hM] at hq ⊢
      clear hw3 hm3 hM
      refine hK.out _ _ hO (fun _ => ?_)
      clear hK K
      refine wpAnyH_sub (S2 := fun w' => (w'.cell? ⟨m, 1, none⟩ = some (.slice (some ⟨g, 0, none⟩) n cap) ∧ w'.cell? ⟨g, i * 36 + 2, none⟩ = some (.int .i64 P.cls)) ∧ w'.cell? ⟨M, P.cls, none⟩ = some (.int .i64 rm)) (fun _ h => h.1) _ _ _ _ ?_
      have hHeld := And.intro hO hq
      try simp only [Act.put, List.setIfInBounds_toArray, List.set_cons_zero, List.set_cons_succ]
      refine wpAnyH_takeD (i := 7) (v := ?_) (some 35) rfl (by rfl) (by kernel_rfl) (by kernel_rfl) (by kernel_rfl) (fun _ _ _ h => h) (Or.inl ⟨by rfl, ?_⟩) (by assumption) ?_
      rotate_left
      · intro w hSw
        try dsimp only at hSw
        go_simp
        try with_reducible rfl
      simp only [Act.put, List.setIfInBounds_toArray, List.set_cons_zero, List.set_cons_succ]
      refine wpAnyH_takeD (i := 8) (v := ?_) (some 36) rfl (by rfl) (by kernel_rfl) (by kernel_rfl) (by kernel_rfl) (fun _ _ _ h => h) (Or.inl ⟨by rfl, ?_⟩) (by assumption) ?_
      rotate_left
      · intro w hSw
        try dsimp only at hSw
        go_simp
        try with_reducible rfl
      simp only [Act.put, List.setIfInBounds_toArray, List.set_cons_zero, List.set_cons_succ]
      refine wpAnyH_takeD (i := 9) (v := ?_) (some 4) rfl (by rfl) (by kernel_rfl) (by kernel_rfl) (by kernel_rfl) (fun _ _ _ h => h) (Or.inl ⟨by rfl, ?_⟩) (by assumption) ?_
      rotate_left
      · intro w hSw
        try dsimp only at hSw
        go_simp
        try with_reducible rfl
      simp only [Act.put, List.setIfInBounds_toArray, List.set_cons_zero, List.set_cons_succ]
      refine wpAnyH_takeD (i := 10) (v := ?_) (some 5) rfl (by rfl) (by kernel_rfl) (by kernel_rfl) (by kernel_rfl) (fun _ _ _ h => h) (Or.inl ⟨by rfl, ?_⟩) (by assumption) ?_
      rotate_left
      · intro w hSw
        try dsimp only at hSw
        go_simp
        try with_reducible rfl
      simp only [Act.put, List.setIfInBounds_toArray, List.set_cons_zero, List.set_cons_succ]
      refine wpAnyH_done (by kernel_rfl) ?_ _
      clear hHeld hO hq b1 c2 c4
      go_wp2
      go_ret2
      exact ⟨.inl ⟨i, k, P, HP.out.1, HY.out, by rw [HRM.out]; rfl⟩, HMB.out.trans' HM3.out⟩
  · have HNo := Lib.hid hNo
    clear hNo
    go_wp2
    go_ret2
    exact ⟨.inr ⟨rfl, HNo.out⟩, HMB.out.trans' HM2.out⟩
end Go.Proofs.YtfmkiioahnphbaaDoor
