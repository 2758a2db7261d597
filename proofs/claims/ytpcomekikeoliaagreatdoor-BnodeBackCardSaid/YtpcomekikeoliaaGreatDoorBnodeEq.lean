/- Two nodes alike: bnode.Same and loftref15.Same, walked; nodes of one degree with the same words are the same. Conditions: the nodes' slices hold what is said, and are no longer than a slice may be. -/
import Derived.Test.YtpcomekikeoliaaGreatDoorBnodeB
set_option linter.unusedVariables false
set_option linter.unusedSimpArgs false
set_option maxRecDepth 100000
namespace Go.Proofs.YtpcomekikeoliaaGreatDoor
open Go Go.RowKit

namespace Nd
def sameB (x y : Nd) : Bool := (x.size == y.size) && decide (x.keys = y.keys) && decide (x.vals = y.vals) && decide (x.kids = y.kids)
theorem sameB_iff {x y : Nd} : sameB x y = true ↔ x = y := by
  obtain ⟨a1, a2, a3, a4⟩ := x
  obtain ⟨b1, b2, b3, b4⟩ := y
  unfold sameB
  simp only [Bool.and_eq_true, beq_iff_eq, decide_eq_true_eq, Nd.mk.injEq]
  constructor
  · rintro ⟨⟨⟨h1, h2⟩, h3⟩, h4⟩; exact ⟨h2, h3, h4, h1⟩
  · rintro ⟨h2, h3, h4, h1⟩; exact ⟨⟨⟨h1, h2⟩, h3⟩, h4⟩
theorem sameB_eq {x y : Nd} : sameB x y = true → x = y := sameB_iff.1
theorem sameB_self (x : Nd) : sameB x x = true := sameB_iff.2 rfl
theorem sameB_comm (x y : Nd) : sameB x y = sameB y x := by
  rw [Bool.eq_iff_iff, sameB_iff, sameB_iff]
  exact eq_comm
theorem getD_inj {l m : List Int} (hl : l.length = m.length) (h : ∀ i, i < l.length → l.getD i 0 = m.getD i 0) : l = m := by
  apply List.ext_getElem hl
  intro i h1 h2
  have := h i h1
  rwa [List.getD_eq_getElem?_getD, List.getD_eq_getElem?_getD, List.getElem?_eq_getElem h1, List.getElem?_eq_getElem h2] at this
theorem prs_inj {x y : Nd} : ∀ n, prs x n = prs y n → ∀ i, i < n → x.keys.getD i 0 = y.keys.getD i 0 ∧ x.vals.getD i 0 = y.vals.getD i 0
  | 0, _, i, hi => by omega
  | n + 1, h, i, hi => by
    rw [prs_succ, prs_succ] at h
    obtain ⟨h1, h2⟩ := List.append_inj h (by rw [prs_len, prs_len])
    by_cases e : i = n
    · subst e
      simp only [List.cons.injEq, and_true] at h2
      exact h2
    · exact prs_inj n h1 i (by omega)
theorem kds_inj {x y : Nd} : ∀ n, kds x n = kds y n → ∀ i, i < n → x.kids.getD i 0 = y.kids.getD i 0
  | 0, _, i, hi => by omega
  | n + 1, h, i, hi => by
    rw [kds_succ, kds_succ] at h
    obtain ⟨h1, h2⟩ := List.append_inj h (by rw [kds_len, kds_len])
    by_cases e : i = n
    · subst e
      simpa using h2
    · exact kds_inj n h1 i (by omega)
theorem kid_ne {x : Nd} (h : x.kidsB = true) {i : Nat} (hi : i < x.kids.length) : x.kids.getD i 0 ≠ 0 := by
  unfold kidsB at h
  simp only [Bool.or_eq_true, beq_iff_eq, Bool.and_eq_true, Bool.not_eq_true', decide_eq_false_iff_not] at h
  rcases h with h | h
  · omega
  · intro e
    apply h.2
    rw [List.getD_eq_getElem?_getD, List.getElem?_eq_getElem hi] at e
    have e : x.kids[i] = 0 := e
    rw [← e]
    exact List.getElem_mem hi
theorem getD_out {l : List Int} {i : Nat} (h : l.length ≤ i) : l.getD i 0 = 0 := by rw [List.getD_eq_getElem?_getD, List.getElem?_eq_none h]; rfl
theorem fitB_kids {t : Int} {x : Nd} (h : fitB t x = true) : x.kidsB = true := by
  unfold fitB at h
  simp only [Bool.and_eq_true] at h
  exact h.2
/-- What has the same words is the same. -/
theorem ws_inj {t : Nat} {x y : Nd} (hx : fitB (t : Int) x = true) (hy : fitB (t : Int) y = true) (h : ws t x = ws t y) : x = y := by
  have F := Fits.of hx
  have G := Fits.of hy
  rw [← ws_eq F, ← ws_eq G] at h
  unfold rw2 at h
  obtain ⟨h1, h2⟩ := List.append_inj h (by rw [rw1_len, rw1_len])
  unfold rw1 at h1
  obtain ⟨h3, h4⟩ := List.append_inj h1 rfl
  simp only [List.cons.injEq, and_true] at h3
  have hk : x.keys.length = y.keys.length := by have := h3.1; omega
  have a := prs_inj _ h4
  have c := kds_inj _ h2
  have fk := F.keys
  have ft := F.t2
  have kx := fitB_kids hx
  have ky := fitB_kids hy
  have hc : x.kids.length = y.kids.length := by
    rcases F.kids with e1 | e1 <;> rcases G.kids with e2 | e2
    · omega
    · exact absurd ((c 0 (by omega)).symm.trans (getD_out (by omega))) (kid_ne ky (by omega))
    · exact absurd ((c 0 (by omega)).trans (getD_out (by omega))) (kid_ne kx (by omega))
    · omega
  obtain ⟨a1, a2, a3, a4⟩ := x
  obtain ⟨b1, b2, b3, b4⟩ := y
  dsimp only at *
  have fv := F.vals
  have gv := G.vals
  dsimp only at fv gv
  have e1 := getD_inj hk fun i hi => (a i (by omega)).1
  have e2 : a2 = b2 := getD_inj (by omega) fun i hi => (a i (by omega)).2
  have e3 : a3 = b3 := getD_inj hc fun i hi => c i (by rcases F.kids with e | e <;> (dsimp only at e; omega))
  rw [e1, e2, e3, h3.2]
end Nd

theorem take_step {xs ys : List Int} {k : Nat} {a b : Int} (h : xs.take k = ys.take k) (ha : xs[k]? = some a) (hb : ys[k]? = some b) (e : a = b) : xs.take (k + 1) = ys.take (k + 1) := by
  rw [List.take_add_one, List.take_add_one, ha, hb, h, e]

theorem leq_call {w : World} {sa sb : Option Addr} {n m ca cb : Nat} {xs ys : List Int} (hx : HasR w sa xs) (hy : HasR w sb ys) (hn : xs.length = n) (hm : ys.length = m) (hl : n ≤ maxLen) :
    Calls Tryz.prog 60 #[.slice sa n ca, .slice sb m cb] w fun e w' => e = .returned (.bool (decide (xs = ys))) ∧ Mod No w w' := by
    have HH := Lib.hid (And.intro hx (And.intro hy (And.intro hn hm)))
    have HM := Lib.hid (Mod.refl No w)
    unfold maxLen at hl
    by_cases hnm : n = m
    · subst hnm
      have dn : ((n : Int) != (n : Int)) = false := bneF rfl
      clear hx hy hn hm
      go_enter Tryz.func60, Tryz.ntmps60
      go_wp2_with fail
      go_loopw [13] (fun iv wr => ∃ k : Nat, iv = .int .i64 k ∧ k ≤ n ∧ xs.take k = ys.take k ∧ Mod No w wr) (fun iv _ => n - (RowKit.intOf iv).toNat)
      case atStart => exact ⟨0, rfl, Nat.zero_le _, rfl, HM.out⟩
      case round =>
        obtain ⟨k, rfl, hk, ht, hm⟩ := hrel
        clear HM
        by_cases hlt : k < n
        · obtain ⟨x, hx⟩ : ∃ x, xs[k]? = some x := ⟨_, List.getElem?_eq_getElem (by rw [HH.out.2.2.1]; exact hlt)⟩
          obtain ⟨y, hy⟩ : ∃ y, ys[k]? = some y := ⟨_, List.getElem?_eq_getElem (by rw [HH.out.2.2.2]; exact hlt)⟩
          obtain ⟨g1, o1, rfl, c1⟩ := HH.out.1.mod hm k x hx
          obtain ⟨g2, o2, rfl, c2⟩ := HH.out.2.1.mod hm k y hy
          have HM := Lib.hid hm
          have hlt' : (k : Int) < (n : Int) := by omega
          have HT := Lib.hid ht
          by_cases hxy : x = y
          · have dx : (x != y) = false := bneF hxy
            have HX := Lib.hid (take_step ht hx hy hxy)
            clear hx hy ht hm hxy HT
            go_wp2_with fail
            refine wp_region_quiet_lit (by kernel_rfl) (by kernel_rfl) ?_
            repeat (go_big_quiet_step (fail))
            refine wpQuiet_nil ?_
            intro wq hwq
            obtain ⟨nq, hwq⟩ := hwq
            have hq := Mod.of_drewN hwq
            clear hwq nq
            have HM2 := Lib.hid (HM.out.trans' hq)
            clear hq
            go_wp2
            go_roundw
            case rel => exact ⟨k + 1, by go_num, by omega, HX.out, HM2.out⟩
            case measure => simp [RowKit.intOf]; omega
          · have dx : (x != y) = true := bneT hxy
            have hne : xs ≠ ys := fun e => by subst e; rw [hx] at hy; cases hy; exact hxy rfl
            have HE := Lib.hid (decide_eq_false hne)
            clear hx hy ht hm hxy HT hne
            go_wp2_with fail
            refine wp_region_quiet_lit (by kernel_rfl) (by kernel_rfl) ?_
            repeat (go_big_quiet_step (fail))
            refine wpQuiet_nil ?_
            intro wq hwq
            obtain ⟨nq, hwq⟩ := hwq
            have hq := Mod.of_drewN hwq
            clear hwq nq
            have HM2 := Lib.hid (HM.out.trans' hq)
            clear hq
            go_wp2
            go_ret
            exact ⟨by rw [HE.out]; rfl, HM2.out⟩
        · obtain rfl : k = n := by omega
          have heq : xs = ys := by
            rw [List.take_of_length_le (by rw [HH.out.2.2.1]; exact Nat.le_refl _), List.take_of_length_le (by rw [HH.out.2.2.2]; exact Nat.le_refl _)] at ht
            exact ht
          have HE := Lib.hid (decide_eq_true heq)
          have HM := Lib.hid hm
          clear hm hlt ht heq
          go_wp2
          go_ret
          exact ⟨by rw [HE.out]; rfl, HM.out⟩
    · have dn : ((n : Int) != (m : Int)) = true := bneT (by omega)
      have hne : xs ≠ ys := fun e => hnm (by rw [← hn, ← hm, e])
      have HE := Lib.hid (decide_eq_false hne)
      have d2 : (n != m) = true := by simpa using hnm
      clear hx hy hn hm hnm hne
      go_enter Tryz.func60, Tryz.ntmps60
      go_wp2_with fail
      go_ret
      exact ⟨by rw [HE.out]; rfl, HM.out⟩
def Nd.max (x : Nd) : Prop := x.keys.length ≤ maxLen ∧ x.vals.length ≤ maxLen ∧ x.kids.length ≤ maxLen
set_option maxHeartbeats 2000000 in
theorem bnsame_call {w : World} {sk sv sc uk uv uc : Option Addr} {ck cv cc dk dv dc : Nat} {x y : Nd} (hx : NdAt w sk sv sc x) (hy : NdAt w uk uv uc y) (hl : x.max) :
    Calls Tryz.prog 23 #[ndV sk ck sv cv sc cc x, ndV uk dk uv dv uc dc y] w fun e w' => e = .returned (.bool (Nd.sameB x y)) ∧ Mod No w w' := by
    obtain ⟨lk, lv, lc⟩ := hl
    obtain ⟨nk, hk⟩ : ∃ n, x.keys.length = n := ⟨_, rfl⟩
    obtain ⟨nv, hv⟩ : ∃ n, x.vals.length = n := ⟨_, rfl⟩
    obtain ⟨nc, hc⟩ : ∃ n, x.kids.length = n := ⟨_, rfl⟩
    obtain ⟨sz, hsz⟩ : ∃ v, x.size = v := ⟨_, rfl⟩
    obtain ⟨mk, jk⟩ : ∃ n, y.keys.length = n := ⟨_, rfl⟩
    obtain ⟨mv, jv⟩ : ∃ n, y.vals.length = n := ⟨_, rfl⟩
    obtain ⟨mc, jc⟩ : ∃ n, y.kids.length = n := ⟨_, rfl⟩
    obtain ⟨tz, jsz⟩ : ∃ v, y.size = v := ⟨_, rfl⟩
    have hV : ndV sk ck sv cv sc cc x = .agg #[.slice sk nk ck, .slice sv nv cv, .slice sc nc cc, .int .u64 sz] := by unfold ndV; rw [hk, hv, hc, hsz]
    have jV : ndV uk dk uv dv uc dc y = .agg #[.slice uk mk dk, .slice uv mv dv, .slice uc mc dc, .int .u64 tz] := by unfold ndV; rw [jk, jv, jc, jsz]
    rw [hV, jV]
    rw [hk] at lk
    rw [hv] at lv
    rw [hc] at lc
    have h1 := ((Sep.nil w).pushCells #[.slice sk nk ck, .slice sv nv cv, .slice sc nc cc, .int .u64 sz] 54).pushCells #[.slice uk mk dk, .slice uv mv dv, .slice uc mc dc, .int .u64 tz] 54
    obtain ⟨B, hB⟩ : ∃ B, w.heap.size = B := ⟨_, rfl⟩
    have e1 : (w.alloc (.cells #[.slice sk nk ck, .slice sv nv cv, .slice sc nc cc, .int .u64 sz] 54)).heap.size = B + 1 := by simp [hB]
    rw [hB, e1] at h1
    obtain ⟨W1, hW1⟩ : ∃ W, (w.alloc (.cells #[.slice sk nk ck, .slice sv nv cv, .slice sc nc cc, .int .u64 sz] 54)).alloc (.cells #[.slice uk mk dk, .slice uv mv dv, .slice uc mc dc, .int .u64 tz] 54) = W := ⟨_, rfl⟩
    rw [hW1] at h1
    have h1 : Sep No w W1 [cellsAt B #[.slice sk nk ck, .slice sv nv cv, .slice sc nc cc, .int .u64 sz] 54, cellsAt (B + 1) #[.slice uk mk dk, .slice uv mv dv, .slice uc mc dc, .int .u64 tz] 54] := h1
    have HX := Lib.hid (And.intro hx hy)
    have HL := Lib.hid (And.intro hk (And.intro hv (And.intro hc (And.intro jk (And.intro jv jc)))))
    have HMX := Lib.hid (And.intro lk (And.intro lv lc))
    have hE : Nd.sameB x y = ((sz == tz) && decide (x.keys = y.keys) && decide (x.vals = y.vals) && decide (x.kids = y.kids)) := by unfold Nd.sameB; rw [hsz, jsz]
    rw [hE]
    have p0 := (h1.cell 0 rfl 0 (v := .slice sk nk ck) rfl).1
    have p1 := (h1.cell 0 rfl 1 (v := .slice sv nv cv) rfl).1
    have p2 := (h1.cell 0 rfl 2 (v := .slice sc nc cc) rfl).1
    have p3 := (h1.cell 0 rfl 3 (v := .int .u64 sz) rfl).1
    have q0 := (h1.cell 1 rfl 0 (v := .slice uk mk dk) rfl).1
    have q1 := (h1.cell 1 rfl 1 (v := .slice uv mv dv) rfl).1
    have q2 := (h1.cell 1 rfl 2 (v := .slice uc mc dc) rfl).1
    have q3 := (h1.cell 1 rfl 3 (v := .int .u64 tz) rfl).1
    have HM1 := Lib.hid h1.mod
    have c1 := leq_call (ca := ck) (cb := dk) (hx.mod h1.mod).keys (hy.mod h1.mod).keys hk jk lk
    have H1 := Lib.hid h1
    clear hx hy hk hv hc hsz jk jv jc jsz hV jV hE lk lv lc h1
    cases dz : sz == tz with
    | false =>
      clear c1 H1
      go_enter Tryz.func23, Tryz.ntmps23
      go_wp2_with fail
      go_ret
      exact ⟨rfl, HM1.out⟩
    | true =>
      go_enter Tryz.func23, Tryz.ntmps23
      go_wp2_with fail
      refine c1.mono ?_
      rintro e w2 ⟨rfl, hm2⟩
      have h2 := H1.out.more hm2
      clear p0 p1 p2 p3 q0 q1 q2 q3
      have p0 := (h2.cell 0 rfl 0 (v := .slice sk nk ck) rfl).1
      have p1 := (h2.cell 0 rfl 1 (v := .slice sv nv cv) rfl).1
      have p2 := (h2.cell 0 rfl 2 (v := .slice sc nc cc) rfl).1
      have p3 := (h2.cell 0 rfl 3 (v := .int .u64 sz) rfl).1
      have q0 := (h2.cell 1 rfl 0 (v := .slice uk mk dk) rfl).1
      have q1 := (h2.cell 1 rfl 1 (v := .slice uv mv dv) rfl).1
      have q2 := (h2.cell 1 rfl 2 (v := .slice uc mc dc) rfl).1
      have q3 := (h2.cell 1 rfl 3 (v := .int .u64 tz) rfl).1
      have HM2 := Lib.hid h2.mod
      have c2 := leq_call (ca := cv) (cb := dv) (HX.out.1.mod h2.mod).vals (HX.out.2.mod h2.mod).vals HL.out.2.1 HL.out.2.2.2.2.1 HMX.out.2.1
      have H2 := Lib.hid h2
      clear c1 hm2 H1 h2
      cases dk1 : decide (x.keys = y.keys) with
      | false =>
        clear c2 H2
        go_wp2_with fail
        go_ret
        exact ⟨by rw [dk1]; rfl, HM2.out⟩
      | true =>
        go_wp2_with fail
        refine c2.mono ?_
        rintro e w3 ⟨rfl, hm3⟩
        have h3 := H2.out.more hm3
        clear p0 p1 p2 p3 q0 q1 q2 q3
        have p0 := (h3.cell 0 rfl 0 (v := .slice sk nk ck) rfl).1
        have p1 := (h3.cell 0 rfl 1 (v := .slice sv nv cv) rfl).1
        have p2 := (h3.cell 0 rfl 2 (v := .slice sc nc cc) rfl).1
        have p3 := (h3.cell 0 rfl 3 (v := .int .u64 sz) rfl).1
        have q0 := (h3.cell 1 rfl 0 (v := .slice uk mk dk) rfl).1
        have q1 := (h3.cell 1 rfl 1 (v := .slice uv mv dv) rfl).1
        have q2 := (h3.cell 1 rfl 2 (v := .slice uc mc dc) rfl).1
        have q3 := (h3.cell 1 rfl 3 (v := .int .u64 tz) rfl).1
        have HM3 := Lib.hid h3.mod
        have c3 := leq_call (ca := cc) (cb := dc) (HX.out.1.mod h3.mod).kids (HX.out.2.mod h3.mod).kids HL.out.2.2.1 HL.out.2.2.2.2.2 HMX.out.2.2
        clear c2 hm3 H2 h3
        cases dk2 : decide (x.vals = y.vals) with
        | false =>
          clear c3
          go_wp2_with fail
          go_ret
          exact ⟨by rw [dk1, dk2]; rfl, HM3.out⟩
        | true =>
          go_wp2_with fail
          refine c3.mono ?_
          rintro e w4 ⟨rfl, hm4⟩
          have HM4 := Lib.hid (HM3.out.trans' hm4)
          clear c3 hm4 HM3 p0 p1 p2 p3 q0 q1 q2 q3
          go_wp2_with fail
          go_ret
          exact ⟨by rw [dk1, dk2]; rfl, HM4.out⟩
end Go.Proofs.YtpcomekikeoliaaGreatDoor
