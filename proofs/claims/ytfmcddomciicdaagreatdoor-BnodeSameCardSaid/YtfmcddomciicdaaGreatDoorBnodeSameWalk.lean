/- BnodeSame, walked. Condition: the table of math/bits holds what its initialiser lays. -/
import Derived.Test.YtfmcddomciicdaaGreatDoorBnodeEq
import Derived.Test.YtfmcddomciicdaaGreatDoorAwake15
import Derived.Test.YtfmcddomciicdaaGreatDoorBnodeNoneWalk
import Derived.BigQuiet
import Derived.Deep.RegionHeld3
set_option linter.unusedVariables false
set_option linter.unusedSimpArgs false
set_option maxRecDepth 100000
namespace Go.Proofs.YtfmcddomciicdaaGreatDoor
open Go Go.RowKit

theorem take_ne {xs ys : List Int} {k : Nat} (h : xs.take k ≠ ys.take k) : xs.take (k + 1) ≠ ys.take (k + 1) := fun e => h (by
  have := congrArg (List.take k) e
  rwa [List.take_take, List.take_take, Nat.min_eq_left (by omega)] at this)
theorem take_ne2 {xs ys : List Int} {k : Nat} {a b : Int} (ha : xs[k]? = some a) (hb : ys[k]? = some b) (e : a ≠ b) : xs.take (k + 1) ≠ ys.take (k + 1) := fun h => by
  have := congrArg (fun l => l[k]?) h
  rw [List.getElem?_take, List.getElem?_take, if_pos (by omega), if_pos (by omega), ha, hb] at this
  exact e (by simpa using this)
theorem Nd.same_ws {t : Nat} {x y : Nd} (hx : fitB (t : Int) x = true) (hy : fitB (t : Int) y = true) : decide ((ws t x).take (6 * t) = (ws t y).take (6 * t)) = sameB x y := by
  rw [List.take_of_length_le (by rw [ws_len]; exact Nat.le_refl _), List.take_of_length_le (by rw [ws_len]; exact Nat.le_refl _)]
  cases h : sameB x y with
  | true => rw [sameB_eq h]; simp
  | false =>
    refine decide_eq_false fun e => ?_
    rw [ws_inj hx hy e, sameB_self] at h
    cases h

abbrev BSPs (B : Nat) (sk sv sc uk uv uc : Option Addr) (nk nv nc mk mv mc ck cv cc dk dv dc : Nat) (sz tz : Int) (tl : List Res) : List Res :=
  cellsAt B #[.slice sk nk ck, .slice sv nv cv, .slice sc nc cc, .int .u64 sz] 117 :: cellsAt (B + 1) #[.slice uk mk dk, .slice uv mv dv, .slice uc mc dc, .int .u64 tz] 117 :: tl




set_option maxRecDepth 100000 in
set_option maxHeartbeats 4000000 in
theorem bsame_in (t : Int) {sk sv sc uk uv uc : Option Addr} {ck cv cc dk dv dc : Nat} {x y : Nd} (w : World) (hx : NdAt w sk sv sc x) (hy : NdAt w uk uv uc y) (hT : Tab64 w) :
    Calls Tryz.prog 13 #[.int .i64 t, ndV sk ck sv cv sc cc x, ndV uk dk uv dv uc dc y] w fun e w' => e = .returned (.bool true) ∧ Below w.heap.size w w' := by
  have HT := Lib.hid hT
  have HX := Lib.hid (And.intro hx hy)
  obtain ⟨nk, hk⟩ : ∃ n, x.keys.length = n := ⟨_, rfl⟩
  obtain ⟨nv, hv⟩ : ∃ n, x.vals.length = n := ⟨_, rfl⟩
  obtain ⟨nc, hc⟩ : ∃ n, x.kids.length = n := ⟨_, rfl⟩
  obtain ⟨sz, hsz⟩ : ∃ v, x.size = v := ⟨_, rfl⟩
  obtain ⟨mk, jk⟩ : ∃ n, y.keys.length = n := ⟨_, rfl⟩
  obtain ⟨mv, jv⟩ : ∃ n, y.vals.length = n := ⟨_, rfl⟩
  obtain ⟨mc, jc⟩ : ∃ n, y.kids.length = n := ⟨_, rfl⟩
  obtain ⟨tz, jsz⟩ : ∃ v, y.size = v := ⟨_, rfl⟩
  have hV : ndV sk ck sv cv sc cc x = .agg #[.slice sk nk ck, .slice sv nv cv, .slice sc nc cc, .int .u64 sz] := by unfold ndV; rw [hk, hv, hc, hsz]
  have jV : ndV uk dk uv dv uc dc y = .agg #[.slice uk mk dk, .slice uv mv dv, .slice uc mc dc, .int .u64 tz] := by unfold ndV; rw [jk, jv, jc, jsz]
  have HV := Lib.hid (And.intro hV jV)
  rw [hV, jV]
  have h1 := ((Sep.nil w).pushCells #[.slice sk nk ck, .slice sv nv cv, .slice sc nc cc, .int .u64 sz] 117).pushCells #[.slice uk mk dk, .slice uv mv dv, .slice uc mc dc, .int .u64 tz] 117
  obtain ⟨B, hB⟩ : ∃ B, w.heap.size = B := ⟨_, rfl⟩
  have e1 : (w.alloc (.cells #[.slice sk nk ck, .slice sv nv cv, .slice sc nc cc, .int .u64 sz] 117)).heap.size = B + 1 := by simp [hB]
  rw [hB, e1] at h1
  obtain ⟨W1, hW1⟩ : ∃ W, (w.alloc (.cells #[.slice sk nk ck, .slice sv nv cv, .slice sc nc cc, .int .u64 sz] 117)).alloc (.cells #[.slice uk mk dk, .slice uv mv dv, .slice uc mc dc, .int .u64 tz] 117) = W := ⟨_, rfl⟩
  rw [hW1] at h1
  have h1 : Sep No w W1 (BSPs B sk sv sc uk uv uc nk nv nc mk mv mc ck cv cc dk dv dc sz tz []) := h1
  have hlx := long_call sk ck sv cv sc cc x W1
  rw [hV] at hlx
  have p0 := (h1.cell 0 rfl 0 (v := .slice sk nk ck) rfl).1
  have p1 := (h1.cell 0 rfl 1 (v := .slice sv nv cv) rfl).1
  have p2 := (h1.cell 0 rfl 2 (v := .slice sc nc cc) rfl).1
  have p3 := (h1.cell 0 rfl 3 (v := .int .u64 sz) rfl).1
  have q0 := (h1.cell 1 rfl 0 (v := .slice uk mk dk) rfl).1
  have q1 := (h1.cell 1 rfl 1 (v := .slice uv mv dv) rfl).1
  have q2 := (h1.cell 1 rfl 2 (v := .slice uc mc dc) rfl).1
  have q3 := (h1.cell 1 rfl 3 (v := .int .u64 tz) rfl).1
  have H1 := Lib.hid h1
  clear hT hx hy hk hv hc hsz jk jv jc jsz hV jV h1
  go_enter Tryz.func13, Tryz.ntmps13
  go_wp2_with fail
  refine hlx.mono ?_
  rintro e w2 ⟨cx, rfl, hcx, hm0⟩
  have hh := H1.out.more hm0
  have hly := long_call uk dk uv dv uc dc y w2
  rw [HV.out.2] at hly
  clear p0 p1 p2 p3 q0 q1 q2 q3 hm0 hlx H1
  have p0 := (hh.cell 0 rfl 0 (v := .slice sk nk ck) rfl).1
  have p1 := (hh.cell 0 rfl 1 (v := .slice sv nv cv) rfl).1
  have p2 := (hh.cell 0 rfl 2 (v := .slice sc nc cc) rfl).1
  have p3 := (hh.cell 0 rfl 3 (v := .int .u64 sz) rfl).1
  have q0 := (hh.cell 1 rfl 0 (v := .slice uk mk dk) rfl).1
  have q1 := (hh.cell 1 rfl 1 (v := .slice uv mv dv) rfl).1
  have q2 := (hh.cell 1 rfl 2 (v := .slice uc mc dc) rfl).1
  have q3 := (hh.cell 1 rfl 3 (v := .int .u64 tz) rfl).1
  have H2 := Lib.hid hh
  have HCX := Lib.hid hcx
  clear hh hcx
  cases cx with
  | true =>
    have HM := Lib.hid H2.out.mod
    clear hly H2
    go_wp2_with fail
    have ha := awake15_call w2 (HT.out.mod HM.out)
    go_wp2_with fail
    refine ha.mono ?_
    rintro e w9 ⟨rfl, hm9⟩
    have H9 := Lib.hid (HM.out.trans' hm9)
    clear ha hm9
    go_wp2
    go_ret
    exact ⟨rfl, H9.out.below _ (Nat.le_refl _) (fun _ _ x => x)⟩
  | false =>
    go_wp2_with fail
    refine hly.mono ?_
    rintro e w3 ⟨cy, rfl, hcy, hm0⟩
    have hh := H2.out.more hm0
    clear p0 p1 p2 p3 q0 q1 q2 q3 hm0 hly H2
    have p0 := (hh.cell 0 rfl 0 (v := .slice sk nk ck) rfl).1
    have p1 := (hh.cell 0 rfl 1 (v := .slice sv nv cv) rfl).1
    have p2 := (hh.cell 0 rfl 2 (v := .slice sc nc cc) rfl).1
    have p3 := (hh.cell 0 rfl 3 (v := .int .u64 sz) rfl).1
    have q0 := (hh.cell 1 rfl 0 (v := .slice uk mk dk) rfl).1
    have q1 := (hh.cell 1 rfl 1 (v := .slice uv mv dv) rfl).1
    have q2 := (hh.cell 1 rfl 2 (v := .slice uc mc dc) rfl).1
    have q3 := (hh.cell 1 rfl 3 (v := .int .u64 tz) rfl).1
    have H3 := Lib.hid hh
    have HCY := Lib.hid hcy
    clear hh hcy
    cases cy with
    | true =>
      have HM := Lib.hid H3.out.mod
      clear H3
      go_wp2_with fail
      have ha := awake15_call w3 (HT.out.mod HM.out)
      go_wp2_with fail
      refine ha.mono ?_
      rintro e w9 ⟨rfl, hm9⟩
      have H9 := Lib.hid (HM.out.trans' hm9)
      clear ha hm9
      go_wp2
      go_ret
      exact ⟨rfl, H9.out.below _ (Nat.le_refl _) (fun _ _ x => x)⟩
    | false =>
      have sx := HCX.out.1 (by trivial)
      have sy := HCY.out.1 (by trivial)
      have mx : x.max := ⟨by have := sx.1; unfold maxLen; omega, by have := sx.2.1; unfold maxLen; omega, by have := sx.2.2; unfold maxLen; omega⟩
      have my : y.max := ⟨by have := sy.1; unfold maxLen; omega, by have := sy.2.1; unfold maxLen; omega, by have := sy.2.2; unfold maxLen; omega⟩
      obtain ⟨c, hcs⟩ : ∃ c, Nd.sameB x y = c := ⟨_, rfl⟩
      have HSH := Lib.hid (And.intro sx (And.intro sy (And.intro mx my)))
      have HS := Lib.hid hcs
      have dcc : (c != c) = false := by simp
      have dcd : (c == c) = true := by simp
      have hc1 := bnsame_call (ck := ck) (cv := cv) (cc := cc) (dk := dk) (dv := dv) (dc := dc) (HX.out.1.mod H3.out.mod) (HX.out.2.mod H3.out.mod) mx
      rw [HV.out.1, HV.out.2, hcs] at hc1
      clear sx sy mx my hcs
      go_wp2_with fail
      refine hc1.mono ?_
      rintro e w4 ⟨rfl, hm0⟩
      have hh := H3.out.more hm0
      clear p0 p1 p2 p3 q0 q1 q2 q3 hm0
      have p0 := (hh.cell 0 rfl 0 (v := .slice sk nk ck) rfl).1
      have p1 := (hh.cell 0 rfl 1 (v := .slice sv nv cv) rfl).1
      have p2 := (hh.cell 0 rfl 2 (v := .slice sc nc cc) rfl).1
      have p3 := (hh.cell 0 rfl 3 (v := .int .u64 sz) rfl).1
      have q0 := (hh.cell 1 rfl 0 (v := .slice uk mk dk) rfl).1
      have q1 := (hh.cell 1 rfl 1 (v := .slice uv mv dv) rfl).1
      have q2 := (hh.cell 1 rfl 2 (v := .slice uc mc dc) rfl).1
      have q3 := (hh.cell 1 rfl 3 (v := .int .u64 tz) rfl).1
      have H4 := Lib.hid hh
      clear hh
      clear hc1 H3
      have hc2 := rnsame_call (ck := ck) (cv := cv) (cc := cc) (dk := dk) (dv := dv) (dc := dc) (HX.out.1.mod H4.out.mod) (HX.out.2.mod H4.out.mod) HSH.out.2.2.1
      rw [HV.out.1, HV.out.2, HS.out] at hc2
      go_wp2_with fail
      refine hc2.mono ?_
      rintro e w5 ⟨rfl, hm0⟩
      have hh := H4.out.more hm0
      clear p0 p1 p2 p3 q0 q1 q2 q3 hm0
      have p0 := (hh.cell 0 rfl 0 (v := .slice sk nk ck) rfl).1
      have p1 := (hh.cell 0 rfl 1 (v := .slice sv nv cv) rfl).1
      have p2 := (hh.cell 0 rfl 2 (v := .slice sc nc cc) rfl).1
      have p3 := (hh.cell 0 rfl 3 (v := .int .u64 sz) rfl).1
      have q0 := (hh.cell 1 rfl 0 (v := .slice uk mk dk) rfl).1
      have q1 := (hh.cell 1 rfl 1 (v := .slice uv mv dv) rfl).1
      have q2 := (hh.cell 1 rfl 2 (v := .slice uc mc dc) rfl).1
      have q3 := (hh.cell 1 rfl 3 (v := .int .u64 tz) rfl).1
      have H5 := Lib.hid hh
      clear hh
      clear hc2 H4
      have hc3 := bnsame_call (ck := dk) (cv := dv) (cc := dc) (dk := ck) (dv := cv) (dc := cc) (HX.out.2.mod H5.out.mod) (HX.out.1.mod H5.out.mod) HSH.out.2.2.2
      rw [HV.out.1, HV.out.2, Nd.sameB_comm, HS.out] at hc3
      go_wp2_with fail
      refine hc3.mono ?_
      rintro e w6 ⟨rfl, hm0⟩
      have hh := H5.out.more hm0
      clear p0 p1 p2 p3 q0 q1 q2 q3 hm0
      have p0 := (hh.cell 0 rfl 0 (v := .slice sk nk ck) rfl).1
      have p1 := (hh.cell 0 rfl 1 (v := .slice sv nv cv) rfl).1
      have p2 := (hh.cell 0 rfl 2 (v := .slice sc nc cc) rfl).1
      have p3 := (hh.cell 0 rfl 3 (v := .int .u64 sz) rfl).1
      have q0 := (hh.cell 1 rfl 0 (v := .slice uk mk dk) rfl).1
      have q1 := (hh.cell 1 rfl 1 (v := .slice uv mv dv) rfl).1
      have q2 := (hh.cell 1 rfl 2 (v := .slice uc mc dc) rfl).1
      have q3 := (hh.cell 1 rfl 3 (v := .int .u64 tz) rfl).1
      have H6 := Lib.hid hh
      clear hh
      clear hc3 H5
      have hc4 := bnsame_call (ck := ck) (cv := cv) (cc := cc) (dk := ck) (dv := cv) (dc := cc) (HX.out.1.mod H6.out.mod) (HX.out.1.mod H6.out.mod) HSH.out.2.2.1
      rw [HV.out.1, Nd.sameB_self] at hc4
      go_wp2_with fail
      refine hc4.mono ?_
      rintro e w7 ⟨rfl, hm0⟩
      have hh := H6.out.more hm0
      clear p0 p1 p2 p3 q0 q1 q2 q3 hm0
      have p0 := (hh.cell 0 rfl 0 (v := .slice sk nk ck) rfl).1
      have p1 := (hh.cell 0 rfl 1 (v := .slice sv nv cv) rfl).1
      have p2 := (hh.cell 0 rfl 2 (v := .slice sc nc cc) rfl).1
      have p3 := (hh.cell 0 rfl 3 (v := .int .u64 sz) rfl).1
      have q0 := (hh.cell 1 rfl 0 (v := .slice uk mk dk) rfl).1
      have q1 := (hh.cell 1 rfl 1 (v := .slice uv mv dv) rfl).1
      have q2 := (hh.cell 1 rfl 2 (v := .slice uc mc dc) rfl).1
      have q3 := (hh.cell 1 rfl 3 (v := .int .u64 tz) rfl).1
      have H7 := Lib.hid hh
      clear hh
      clear hc4 H6
      have hfx := rfits_call (sk := sk) (sv := sv) (ck := ck) (cv := cv) (cc := cc) (HX.out.1.mod H7.out.mod).kids HSH.out.1 t
      rw [HV.out.1] at hfx
      cases hf : Nd.fitB t x with
      | false =>
        rw [hf] at hfx
        clear hf
        go_wp2_with fail
        refine hfx.mono ?_
        rintro e w8 ⟨rfl, hm0⟩
        have hh := H7.out.more hm0
        clear p0 p1 p2 p3 q0 q1 q2 q3 hm0
        have p0 := (hh.cell 0 rfl 0 (v := .slice sk nk ck) rfl).1
        have p1 := (hh.cell 0 rfl 1 (v := .slice sv nv cv) rfl).1
        have p2 := (hh.cell 0 rfl 2 (v := .slice sc nc cc) rfl).1
        have p3 := (hh.cell 0 rfl 3 (v := .int .u64 sz) rfl).1
        have q0 := (hh.cell 1 rfl 0 (v := .slice uk mk dk) rfl).1
        have q1 := (hh.cell 1 rfl 1 (v := .slice uv mv dv) rfl).1
        have q2 := (hh.cell 1 rfl 2 (v := .slice uc mc dc) rfl).1
        have q3 := (hh.cell 1 rfl 3 (v := .int .u64 tz) rfl).1
        have H8 := Lib.hid hh
        clear hh
        have HM := Lib.hid H8.out.mod
        clear hfx H7 H8
        go_wp2_with fail
        have ha := awake15_call w8 (HT.out.mod HM.out)
        go_wp2_with fail
        refine ha.mono ?_
        rintro e w9 ⟨rfl, hm9⟩
        have H9 := Lib.hid (HM.out.trans' hm9)
        clear ha hm9
        go_wp2
        go_ret
        exact ⟨rfl, H9.out.below _ (Nat.le_refl _) (fun _ _ x => x)⟩
      | true =>
        rw [hf] at hfx
        have HFX := Lib.hid hf
        clear hf
        go_wp2_with fail
        refine hfx.mono ?_
        rintro e w8 ⟨rfl, hm0⟩
        have hh := H7.out.more hm0
        clear p0 p1 p2 p3 q0 q1 q2 q3 hm0
        have p0 := (hh.cell 0 rfl 0 (v := .slice sk nk ck) rfl).1
        have p1 := (hh.cell 0 rfl 1 (v := .slice sv nv cv) rfl).1
        have p2 := (hh.cell 0 rfl 2 (v := .slice sc nc cc) rfl).1
        have p3 := (hh.cell 0 rfl 3 (v := .int .u64 sz) rfl).1
        have q0 := (hh.cell 1 rfl 0 (v := .slice uk mk dk) rfl).1
        have q1 := (hh.cell 1 rfl 1 (v := .slice uv mv dv) rfl).1
        have q2 := (hh.cell 1 rfl 2 (v := .slice uc mc dc) rfl).1
        have q3 := (hh.cell 1 rfl 3 (v := .int .u64 tz) rfl).1
        have H8 := Lib.hid hh
        clear hh
        clear hfx H7
        have hfy := rfits_call (sk := uk) (sv := uv) (ck := dk) (cv := dv) (cc := dc) (HX.out.2.mod H8.out.mod).kids HSH.out.2.1 t
        rw [HV.out.2] at hfy
        cases hf : Nd.fitB t y with
        | false =>
          rw [hf] at hfy
          clear hf
          go_wp2_with fail
          refine hfy.mono ?_
          rintro e w9 ⟨rfl, hm0⟩
          have hh := H8.out.more hm0
          clear p0 p1 p2 p3 q0 q1 q2 q3 hm0
          have p0 := (hh.cell 0 rfl 0 (v := .slice sk nk ck) rfl).1
          have p1 := (hh.cell 0 rfl 1 (v := .slice sv nv cv) rfl).1
          have p2 := (hh.cell 0 rfl 2 (v := .slice sc nc cc) rfl).1
          have p3 := (hh.cell 0 rfl 3 (v := .int .u64 sz) rfl).1
          have q0 := (hh.cell 1 rfl 0 (v := .slice uk mk dk) rfl).1
          have q1 := (hh.cell 1 rfl 1 (v := .slice uv mv dv) rfl).1
          have q2 := (hh.cell 1 rfl 2 (v := .slice uc mc dc) rfl).1
          have q3 := (hh.cell 1 rfl 3 (v := .int .u64 tz) rfl).1
          have H9 := Lib.hid hh
          clear hh
          have HM := Lib.hid H9.out.mod
          clear hfy H8 H9
          go_wp2_with fail
          have ha := awake15_call w9 (HT.out.mod HM.out)
          go_wp2_with fail
          refine ha.mono ?_
          rintro e w9 ⟨rfl, hm9⟩
          have H9 := Lib.hid (HM.out.trans' hm9)
          clear ha hm9
          go_wp2
          go_ret
          exact ⟨rfl, H9.out.below _ (Nat.le_refl _) (fun _ _ x => x)⟩
        | true =>
          rw [hf] at hfy
          have hfx := HFX.out
          have htr : 2 ≤ t ∧ t ≤ 16 := by
            have hdg : Nd.degB t = true := by
              unfold Nd.fitB at hf
              simp only [Bool.and_eq_true] at hf
              exact hf.1.1.1
            simpa [Nd.degB] using hdg
          obtain ⟨tn, rfl⟩ := Int.eq_ofNat_of_zero_le (show 0 ≤ t by omega)
          obtain ⟨n6, hn6⟩ : ∃ n, 6 * tn = n := ⟨_, rfl⟩
          have h96 : n6 ≤ 96 ∧ 12 ≤ n6 := by omega
          have HF := Lib.hid (And.intro hfx (And.intro hf hn6))
          clear hf hfx hn6 htr
          go_wp2_with fail
          refine hfy.mono ?_
          rintro e w9 ⟨rfl, hm0⟩
          have hh := H8.out.more hm0
          clear p0 p1 p2 p3 q0 q1 q2 q3 hm0
          have p0 := (hh.cell 0 rfl 0 (v := .slice sk nk ck) rfl).1
          have p1 := (hh.cell 0 rfl 1 (v := .slice sv nv cv) rfl).1
          have p2 := (hh.cell 0 rfl 2 (v := .slice sc nc cc) rfl).1
          have p3 := (hh.cell 0 rfl 3 (v := .int .u64 sz) rfl).1
          have q0 := (hh.cell 1 rfl 0 (v := .slice uk mk dk) rfl).1
          have q1 := (hh.cell 1 rfl 1 (v := .slice uv mv dv) rfl).1
          have q2 := (hh.cell 1 rfl 2 (v := .slice uc mc dc) rfl).1
          have q3 := (hh.cell 1 rfl 3 (v := .int .u64 tz) rfl).1
          have H9 := Lib.hid hh
          clear hh
          clear hfy H8
          go_wp2_with fail
          have H9d := Lib.hid H9.out.drew
          refine wp_region_held_drew (S := fun w' => (w'.cell? ⟨B, 0, none⟩ = some (.slice sk nk ck) ∧ w'.cell? ⟨B, 1, none⟩ = some (.slice sv nv cv) ∧ w'.cell? ⟨B, 2, none⟩ = some (.slice sc nc cc) ∧ w'.cell? ⟨B, 3, none⟩ = some (.int .u64 sz)) ∧ w'.cell? ⟨B + 1, 0, none⟩ = some (.slice uk mk dk) ∧ w'.cell? ⟨B + 1, 1, none⟩ = some (.slice uv mv dv) ∧ w'.cell? ⟨B + 1, 2, none⟩ = some (.slice uc mc dc) ∧ w'.cell? ⟨B + 1, 3, none⟩ = some (.int .u64 tz)) (by kernel_rfl) ⟨⟨p0, p1, p2, p3⟩, q0, q1, q2, q3⟩ (fun hHeld => ?_)
          clear p0 p1 p2 p3 q0 q1 q2 q3 H9
          refine wpAnyH_takeD (i := 0) (v := ?_) (some 51) rfl (by rfl) (by kernel_rfl) (by kernel_rfl) (by kernel_rfl) (fun _ _ _ h => h) (Or.inl ⟨by rfl, ?_⟩) (by assumption) ?_
          rotate_left
          · intro w hSw
            try dsimp only at hSw
            go_simp
            try with_reducible rfl
          simp only [Act.put, List.setIfInBounds_toArray, List.set_cons_zero, List.set_cons_succ]
          refine wpAnyH_takeD (i := 1) (v := ?_) (some 52) rfl (by rfl) (by kernel_rfl) (by kernel_rfl) (by kernel_rfl) (fun _ _ _ h => h) (Or.inl ⟨by rfl, ?_⟩) (by assumption) ?_
          rotate_left
          · intro w hSw
            try dsimp only at hSw
            go_simp
            try with_reducible rfl
          simp only [Act.put, List.setIfInBounds_toArray, List.set_cons_zero, List.set_cons_succ]
          refine wpAnyH_takeD (i := 3) (v := ?_) (some 54) rfl (by rfl) (by kernel_rfl) (by kernel_rfl) (by kernel_rfl) (fun _ _ _ h => h) (Or.inl ⟨by rfl, ?_⟩) (by assumption) ?_
          rotate_left
          · intro w hSw
            try dsimp only at hSw
            go_simp
            try with_reducible rfl
          simp only [Act.put, List.setIfInBounds_toArray, List.set_cons_zero, List.set_cons_succ]
          refine wpAnyH_takeD (i := 4) (v := ?_) (some 55) rfl (by rfl) (by kernel_rfl) (by kernel_rfl) (by kernel_rfl) (fun _ _ _ h => h) (Or.inl ⟨by rfl, ?_⟩) (by assumption) ?_
          rotate_left
          · intro w hSw
            try dsimp only at hSw
            go_simp
            try with_reducible rfl
          simp only [Act.put, List.setIfInBounds_toArray, List.set_cons_zero, List.set_cons_succ]
          have hw1 := rwords_call (ck := ck) (cv := cv) (cc := cc) (HX.out.1.mod H9d.out.mod) HSH.out.1 (Nd.Fits.of HF.out.1)
          rw [HV.out.1, HF.out.2.2] at hw1
          refine wpAnyH_ready (rs := [2]) (by kernel_rfl) (by simp) ?_
          refine AllReadyH.cons rfl (fun K hK => ?_) AllReadyH.nil
          go_simp
          refine (hw1).mono ?_
          rintro e w10 ⟨ra, ca, rfl, hh⟩
          have hA : Sep No w w10 (BSPs B sk sv sc uk uv uc nk nv nc mk mv mc ck cv cc dk dv dc sz tz [rwR (.slice ra n6 ca) n6 (Nd.ws tn x)]) := H9d.out.join hh
          have HA := Lib.hid hA
          have p0 := (hA.cell 0 rfl 0 (v := .slice sk nk ck) rfl).1
          have p1 := (hA.cell 0 rfl 1 (v := .slice sv nv cv) rfl).1
          have p2 := (hA.cell 0 rfl 2 (v := .slice sc nc cc) rfl).1
          have p3 := (hA.cell 0 rfl 3 (v := .int .u64 sz) rfl).1
          have q0 := (hA.cell 1 rfl 0 (v := .slice uk mk dk) rfl).1
          have q1 := (hA.cell 1 rfl 1 (v := .slice uv mv dv) rfl).1
          have q2 := (hA.cell 1 rfl 2 (v := .slice uc mc dc) rfl).1
          have q3 := (hA.cell 1 rfl 3 (v := .int .u64 tz) rfl).1
          clear hw1 hh hA
          have HZ := And.intro (And.intro p0 (And.intro p1 (And.intro p2 p3))) (And.intro q0 (And.intro q1 (And.intro q2 q3)))
          clear p0 p1 p2 p3 q0 q1 q2 q3
          refine hK.out _ _ HZ (fun _ => ?_)
          clear hK K hHeld
          have hHeld := HZ
          clear HZ
          try simp only [Act.put, List.setIfInBounds_toArray, List.set_cons_zero, List.set_cons_succ]
          have hw2 := rwords_call (ck := dk) (cv := dv) (cc := dc) (HX.out.2.mod HA.out.mod) HSH.out.2.1 (Nd.Fits.of HF.out.2.1)
          rw [HV.out.2, HF.out.2.2] at hw2
          refine wpAnyH_ready (rs := [5]) (by kernel_rfl) (by simp) ?_
          refine AllReadyH.cons rfl (fun K hK => ?_) AllReadyH.nil
          go_simp
          refine (hw2).mono ?_
          rintro e w11 ⟨rb, cb, rfl, hh⟩
          have hB2 : Sep No w w11 (BSPs B sk sv sc uk uv uc nk nv nc mk mv mc ck cv cc dk dv dc sz tz [rwR (.slice ra n6 ca) n6 (Nd.ws tn x), rwR (.slice rb n6 cb) n6 (Nd.ws tn y)]) := HA.out.join hh
          have HL := Lib.hid hB2
          have p0 := (hB2.cell 0 rfl 0 (v := .slice sk nk ck) rfl).1
          have p1 := (hB2.cell 0 rfl 1 (v := .slice sv nv cv) rfl).1
          have p2 := (hB2.cell 0 rfl 2 (v := .slice sc nc cc) rfl).1
          have p3 := (hB2.cell 0 rfl 3 (v := .int .u64 sz) rfl).1
          have q0 := (hB2.cell 1 rfl 0 (v := .slice uk mk dk) rfl).1
          have q1 := (hB2.cell 1 rfl 1 (v := .slice uv mv dv) rfl).1
          have q2 := (hB2.cell 1 rfl 2 (v := .slice uc mc dc) rfl).1
          have q3 := (hB2.cell 1 rfl 3 (v := .int .u64 tz) rfl).1
          clear hw2 hh hB2 HA
          have HZ := And.intro (And.intro p0 (And.intro p1 (And.intro p2 p3))) (And.intro q0 (And.intro q1 (And.intro q2 q3)))
          clear p0 p1 p2 p3 q0 q1 q2 q3
          refine hK.out _ _ HZ (fun _ => ?_)
          clear hK K hHeld
          have hHeld := HZ
          clear HZ
          try simp only [Act.put, List.setIfInBounds_toArray, List.set_cons_zero, List.set_cons_succ]
          refine wpAnyH_takeD (i := 6) (v := ?_) (some 8) rfl (by rfl) (by kernel_rfl) (by kernel_rfl) (by kernel_rfl) (fun _ _ _ h => h) (Or.inl ⟨by rfl, ?_⟩) (by assumption) ?_
          rotate_left
          · intro w hSw
            try dsimp only at hSw
            go_simp
            try with_reducible rfl
          simp only [Act.put, List.setIfInBounds_toArray, List.set_cons_zero, List.set_cons_succ]
          refine wpAnyH_takeD (i := 7) (v := ?_) (some 9) rfl (by rfl) (by kernel_rfl) (by kernel_rfl) (by kernel_rfl) (fun _ _ _ h => h) (Or.inl ⟨by rfl, ?_⟩) (by assumption) ?_
          rotate_left
          · intro w hSw
            try dsimp only at hSw
            go_simp
            try with_reducible rfl
          simp only [Act.put, List.setIfInBounds_toArray, List.set_cons_zero, List.set_cons_succ]
          refine wpAnyH_done (by kernel_rfl) ?_ _
          clear hHeld
          go_wp2_with fail
          go_loopw [10, 11] (fun sv' iv wr => ∃ k : Nat, iv = .int .i64 k ∧ k ≤ n6 ∧ sv' = .bool (decide ((Nd.ws tn x).take k = (Nd.ws tn y).take k)) ∧ Sep No w wr (BSPs B sk sv sc uk uv uc nk nv nc mk mv mc ck cv cc dk dv dc sz tz [rwR (.slice ra n6 ca) n6 (Nd.ws tn x), rwR (.slice rb n6 cb) n6 (Nd.ws tn y)])) (fun _ iv _ => n6 - (RowKit.intOf iv).toNat)
          case atStart => exact ⟨0, rfl, Nat.zero_le _, by simp, HL.out⟩
          case round =>
            obtain ⟨k, rfl, hk, rfl, h⟩ := hrel
            clear HL
            by_cases hlt : k < n6
            · obtain ⟨a, ha⟩ : ∃ v, (Nd.ws tn x)[k]? = some v := ⟨_, List.getElem?_eq_getElem (by rw [Nd.ws_len, HF.out.2.2]; exact hlt)⟩
              obtain ⟨b, hb⟩ : ∃ v, (Nd.ws tn y)[k]? = some v := ⟨_, List.getElem?_eq_getElem (by rw [Nd.ws_len, HF.out.2.2]; exact hlt)⟩
              obtain ⟨g1, rfl, cx, _⟩ := h.item 2 rfl (o := k) (x := .int .u64 a) (by rw [List.getElem?_map, ha]; rfl)
              obtain ⟨g2, rfl, cy, _⟩ := h.item 3 rfl (o := k) (x := .int .u64 b) (by rw [List.getElem?_map, hb]; rfl)
              have dI : decide ((k : Int) < (n6 : Int)) = true := ltT (by omega)
              have hki : (k : Int) < (n6 : Int) := by omega
              have HK1 : Hid (k + 1 ≤ n6 ∧ n6 - (k + 1) < n6 - k) := by exact Lib.hid ⟨by omega, by omega⟩
              have H := Lib.hid h
              cases hd : decide ((Nd.ws tn x).take k = (Nd.ws tn y).take k) with
              | false =>
                have hn : decide ((Nd.ws tn x).take (k + 1) = (Nd.ws tn y).take (k + 1)) = false := decide_eq_false (take_ne (of_decide_eq_false hd))
                have HN := Lib.hid hn
                clear ha hb h hlt hd hn
                go_wp2_with fail
                refine wp_region_quiet_lit (by kernel_rfl) (by kernel_rfl) ?_
                repeat (go_big_quiet_step (fail))
                refine wpQuiet_nil ?_
                intro wq hwq
                obtain ⟨nq, hwq⟩ := hwq
                have hq := Mod.of_drewN hwq
                clear hwq nq
                have H2 := Lib.hid (H.out.more hq)
                clear hq
                go_wp2_with fail
                go_roundw
                case rel => exact ⟨k + 1, by go_num, HK1.out.1, by rw [HN.out], H2.out⟩
                case measure => have := HK1.out.2; simp [RowKit.intOf]; omega
              | true =>
                by_cases hab : a = b
                · have hn : decide ((Nd.ws tn x).take (k + 1) = (Nd.ws tn y).take (k + 1)) = true := decide_eq_true (take_step (of_decide_eq_true hd) ha hb hab)
                  have HN := Lib.hid hn
                  have dab : (a == b) = true := beqT hab
                  clear ha hb h hlt hd hn hab
                  go_wp2_with fail
                  refine wp_region_quiet_lit (by kernel_rfl) (by kernel_rfl) ?_
                  repeat (go_big_quiet_step (fail))
                  refine wpQuiet_nil ?_
                  intro wq hwq
                  obtain ⟨nq, hwq⟩ := hwq
                  have hq := Mod.of_drewN hwq
                  clear hwq nq
                  have H2 := Lib.hid (H.out.more hq)
                  clear hq
                  go_wp2_with fail
                  go_roundw
                  case rel => exact ⟨k + 1, by go_num, HK1.out.1, by rw [HN.out], H2.out⟩
                  case measure => have := HK1.out.2; simp [RowKit.intOf]; omega
                · have hn : decide ((Nd.ws tn x).take (k + 1) = (Nd.ws tn y).take (k + 1)) = false := decide_eq_false (take_ne2 ha hb hab)
                  have HN := Lib.hid hn
                  have dab : (a == b) = false := beqF hab
                  clear ha hb h hlt hd hn hab
                  go_wp2_with fail
                  refine wp_region_quiet_lit (by kernel_rfl) (by kernel_rfl) ?_
                  repeat (go_big_quiet_step (fail))
                  refine wpQuiet_nil ?_
                  intro wq hwq
                  obtain ⟨nq, hwq⟩ := hwq
                  have hq := Mod.of_drewN hwq
                  clear hwq nq
                  have H2 := Lib.hid (H.out.more hq)
                  clear hq
                  go_wp2_with fail
                  go_roundw
                  case rel => exact ⟨k + 1, by go_num, HK1.out.1, by rw [HN.out], H2.out⟩
                  case measure => have := HK1.out.2; simp [RowKit.intOf]; omega
            · obtain rfl : k = n6 := by omega
              have hs := Nd.same_ws HF.out.1 HF.out.2.1
              rw [HF.out.2.2, HS.out] at hs
              rw [hs]
              have dI : decide ((k : Int) < (k : Int)) = false := ltF (by omega)
              have HM := Lib.hid h.mod
              clear hlt h hs
              go_wp2_with fail
              have ha := awake15_call wr (HT.out.mod HM.out)
              go_wp2_with fail
              refine ha.mono ?_
              rintro e w9 ⟨rfl, hm9⟩
              have H9 := Lib.hid (HM.out.trans' hm9)
              clear ha hm9
              go_wp2
              go_ret
              exact ⟨rfl, H9.out.below _ (Nat.le_refl _) (fun _ _ x => x)⟩
theorem bnodeSame_walk (t : Int) (sa : Option Addr) (la ca : Nat) (za : List (List Int)) (sb : Option Addr) (lb cb : Nat) (zb : List (List Int)) (sc : Option Addr) (lc cc : Nat) (zc : List (List Int)) (n : Int) (ta : Option Addr) (ma da : Nat) (ya : List (List Int)) (tb : Option Addr) (mb db : Nat) (yb : List (List Int)) (tc : Option Addr) (mc dc : Nat) (yc : List (List Int)) (m : Int) (w : World) (w0 : (Lit.int .i64 t).wf = true)
    (ra : Recs w sa la [some .u64] za) (rb : Recs w sb lb [some .u64] zb) (rc : Recs w sc lc [some .u64] zc) (wn : (Lit.int .u64 n).wf = true) (qa : Recs w ta ma [some .u64] ya) (qb : Recs w tb mb [some .u64] yb) (qc : Recs w tc mc [some .u64] yc) (wm : (Lit.int .u64 m).wf = true) (hT : Tab64 w) :
    Calls Tryz.prog 13 #[.int .i64 t, .agg #[.slice sa la ca, .slice sb lb cb, .slice sc lc cc, .int .u64 n], .agg #[.slice ta ma da, .slice tb mb db, .slice tc mc dc, .int .u64 m]] w fun e w' => e = .returned (.bool true) ∧ Below w.heap.size w w' := by
  have e : (.agg #[.slice sa la ca, .slice sb lb cb, .slice sc lc cc, .int .u64 n] : Value) = ndV sa ca sb cb sc cc ⟨lst za, lst zb, lst zc, n⟩ := by
    unfold ndV
    dsimp only
    rw [lst_len ra, lst_len rb, lst_len rc]
  have e2 : (.agg #[.slice ta ma da, .slice tb mb db, .slice tc mc dc, .int .u64 m] : Value) = ndV ta da tb db tc dc ⟨lst ya, lst yb, lst yc, m⟩ := by
    unfold ndV
    dsimp only
    rw [lst_len qa, lst_len qb, lst_len qc]
  rw [e, e2]
  exact bsame_in t w ⟨(lst_has ra).1, (lst_has rb).1, (lst_has rc).1⟩ ⟨(lst_has qa).1, (lst_has qb).1, (lst_has qc).1⟩ hT
end Go.Proofs.YtfmcddomciicdaaGreatDoor
