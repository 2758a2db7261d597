/- BnodeNone, walked. Condition: the table of math/bits holds what its initialiser lays. -/
import Derived.Test.YtfmcddomciicdaaGreatDoorBnodeB
import Derived.Test.YtfmcddomciicdaaGreatDoorAwake15
import Derived.Test.YtfmcddomciicdaaGreatDoorArgs
import Derived.Deep.RegionHeld3
import Derived.Deep.DeepCutAuto
set_option linter.unusedVariables false
set_option linter.unusedSimpArgs false
set_option maxRecDepth 100000
namespace Go.Proofs.YtfmcddomciicdaaGreatDoor
open Go Go.RowKit

/-- The words of a slice that came in. -/
def lst (z : List (List Int)) : List Int := z.map fun r => r.headD 0
theorem lst_len {w : World} {s : Option Addr} {l : Nat} {z : List (List Int)} (R : Recs w s l [some .u64] z) : (lst z).length = l := by unfold lst; rw [List.length_map, R.count]
theorem lst_has {w : World} {s : Option Addr} {l : Nat} {z : List (List Int)} (R : Recs w s l [some .u64] z) : HasR w s (lst z) ∧ ∀ k ∈ lst z, 0 ≤ k ∧ k < 18446744073709551616 := by
  have each : ∀ (k : Nat) (x : Int), (lst z)[k]? = some x → ∃ r, z[k]? = some r ∧ r[0]? = some x := fun k x h => by
    unfold lst at h
    rw [List.getElem?_map] at h
    obtain ⟨r, hr, hx⟩ := Option.map_eq_some_iff.1 h
    have hl := (R.ok r (List.mem_of_getElem? hr)).1
    match r, hl with
    | [y], _ => exact ⟨[y], hr, by rw [← hx]; rfl⟩
  refine ⟨fun k x h => ?_, fun x hx => ?_⟩
  · obtain ⟨r, hr, h0⟩ := each k x h
    have hlt : 0 < l := by have := (List.getElem?_eq_some_iff.1 hr).1; rw [R.count] at this; omega
    obtain ⟨b, off, e, _, hc⟩ := R.cells hlt
    have := hc k r hr 0 _ x rfl h0
    exact ⟨b, off, e, by simpa [fv] using this⟩
  · obtain ⟨k, hk⟩ := List.mem_iff_getElem?.1 hx
    obtain ⟨r, hr, h0⟩ := each k x hk
    have := bounds_u64 ((R.ok r (List.mem_of_getElem? hr)).2 0 _ x rfl h0)
    omega



set_option maxRecDepth 100000 in
set_option maxHeartbeats 4000000 in
theorem bnone_in (t hh : Int) {sk sv sc : Option Addr} {ck cv cc : Nat} {x : Nd} (w : World) (hx : NdAt w sk sv sc x) (hxo : x.Ok) (ht : -9223372036854775808 ≤ t ∧ t ≤ 9223372036854775807) (hT : Tab64 w) :
    Calls Tryz.prog 16 #[.int .i64 t, .int .u64 hh, ndV sk ck sv cv sc cc x] w fun e w' => e = .returned (.bool true) ∧ Below w.heap.size w w' := by
  have HT := Lib.hid hT
  have HX := Lib.hid (And.intro hx hxo)
  obtain ⟨nk, hk⟩ : ∃ n, x.keys.length = n := ⟨_, rfl⟩
  obtain ⟨nv, hv⟩ : ∃ n, x.vals.length = n := ⟨_, rfl⟩
  obtain ⟨nc, hc⟩ : ∃ n, x.kids.length = n := ⟨_, rfl⟩
  obtain ⟨sz, hsz⟩ : ∃ v, x.size = v := ⟨_, rfl⟩
  have hV : ndV sk ck sv cv sc cc x = .agg #[.slice sk nk ck, .slice sv nv cv, .slice sc nc cc, .int .u64 sz] := by unfold ndV; rw [hk, hv, hc, hsz]
  have HV := Lib.hid hV
  have HLK := Lib.hid (And.intro hk (And.intro hv hc))
  rw [hV]
  have h1 := (Sep.nil w).pushCells #[.slice sk nk ck, .slice sv nv cv, .slice sc nc cc, .int .u64 sz] 117
  obtain ⟨B, hB⟩ : ∃ B, w.heap.size = B := ⟨_, rfl⟩
  obtain ⟨W1, hW1⟩ : ∃ W, w.alloc (.cells #[.slice sk nk ck, .slice sv nv cv, .slice sc nc cc, .int .u64 sz] 117) = W := ⟨_, rfl⟩
  rw [hB, hW1] at h1
  have h1 : Sep No w W1 [cellsAt B #[.slice sk nk ck, .slice sv nv cv, .slice sc nc cc, .int .u64 sz] 117] := h1
  have hlg := long_call sk ck sv cv sc cc x W1
  rw [hV] at hlg
  have H1 := Lib.hid h1
  have p0 := (h1.cell 0 rfl 0 (v := .slice sk nk ck) rfl).1
  have p1 := (h1.cell 0 rfl 1 (v := .slice sv nv cv) rfl).1
  have p2 := (h1.cell 0 rfl 2 (v := .slice sc nc cc) rfl).1
  have p3 := (h1.cell 0 rfl 3 (v := .int .u64 sz) rfl).1
  clear hx hxo hT h1 hk hv hc hsz hV
  go_enter Tryz.func16, Tryz.ntmps16
  go_wp2_with fail
  refine hlg.mono ?_
  rintro e w2 ⟨c, rfl, hcs, hm2⟩
  have h2 := H1.out.more hm2
  have HCS := Lib.hid hcs
  clear hlg hm2 H1 p0 p1 p2 p3 hcs
  cases c with
  | true =>
    have HM := Lib.hid h2.mod
    clear h2
    go_wp2_with fail
    have ha := awake15_call w2 (HT.out.mod HM.out)
    go_wp2_with fail
    refine ha.mono ?_
    rintro e w9 ⟨rfl, hm9⟩
    have H9 := Lib.hid (HM.out.trans' hm9)
    clear ha hm9
    go_wp2
    go_ret
    exact ⟨rfl, H9.out.below _ (Nat.le_refl _) (fun _ _ x => x)⟩
  | false =>
    have hn := stnew_call h2 6400 9 9 (by omega) (by omega) (by omega) (by omega) (by omega) (by omega)
    clear h2
    go_wp2_with fail
    refine hn.mono ?_
    rintro e w3 ⟨b, rfl, h3⟩
    have h3 : Sep No w w3 [cellsAt B #[.slice sk nk ck, .slice sv nv cv, .slice sc nc cc, .int .u64 sz] 117, stR b 9 9 (Slb.empty 6400) ⟨9, 9, []⟩] := h3
    have hz := zbnMake (noStore_nil w3) t sk nk ck sv nv cv sc nc cc sz
    have p0 := (h3.cell 0 rfl 0 (v := .slice sk nk ck) rfl).1
    have p1 := (h3.cell 0 rfl 1 (v := .slice sv nv cv) rfl).1
    have p2 := (h3.cell 0 rfl 2 (v := .slice sc nc cc) rfl).1
    have p3 := (h3.cell 0 rfl 3 (v := .int .u64 sz) rfl).1
    have H3 := Lib.hid h3
    clear hn h3
    go_wp2_with fail
    refine hz.mono ?_
    rintro e w4 ⟨rfl, hm4⟩
    have H4 := Lib.hid (H3.out.more hm4)
    have hz := zbnGet (noStore_nil w4) t hh
    clear hm4 H3 p0 p1 p2 p3
    go_wp2_with fail
    refine hz.mono ?_
    rintro e w5 ⟨rfl, hm5⟩
    have h5 := (H4.out.more hm5).more ((Mod.refl No w5).alloc (.cells #[.slice none 0 0, .slice none 0 0, .slice none 0 0, .int .u64 0] 117))
    have HRS := Lib.hid (rsame_zero (w5.alloc (.cells #[.slice none 0 0, .slice none 0 0, .slice none 0 0, .int .u64 0] 117)))
    have H5 := Lib.hid h5
    clear hz hm5 H4 h5
    go_wp2_with fail
    refine HRS.out.mono ?_
    rintro e w6 ⟨rfl, hm6⟩
    have h6 := H5.out.more hm6
    have hz := zbnPut (noStore_nil w6) t hh sk nk ck sv nv cv sc nc cc sz
    have p0 := (h6.cell 0 rfl 0 (v := .slice sk nk ck) rfl).1
    have p1 := (h6.cell 0 rfl 1 (v := .slice sv nv cv) rfl).1
    have p2 := (h6.cell 0 rfl 2 (v := .slice sc nc cc) rfl).1
    have p3 := (h6.cell 0 rfl 3 (v := .int .u64 sz) rfl).1
    have H6 := Lib.hid h6
    clear HRS hm6 H5 h6
    go_wp2_with fail
    refine hz.mono ?_
    rintro e w7 ⟨rfl, hm7⟩
    have H7 := Lib.hid (H6.out.more hm7)
    have hz := zbnDrop (noStore_nil w7) t hh
    clear hm7 H6 p0 p1 p2 p3
    go_wp2_with fail
    refine hz.mono ?_
    rintro e w8 ⟨rfl, hm8⟩
    have h8 := H7.out.more hm8
    have p0 := (h8.cell 0 rfl 0 (v := .slice sk nk ck) rfl).1
    have p1 := (h8.cell 0 rfl 1 (v := .slice sv nv cv) rfl).1
    have p2 := (h8.cell 0 rfl 2 (v := .slice sc nc cc) rfl).1
    have p3 := (h8.cell 0 rfl 3 (v := .int .u64 sz) rfl).1
    have H8 := Lib.hid h8
    clear hz hm8 H7 h8
    have hs := HCS.out.1 (by trivial)
    have lk : x.keys.length ≤ maxLen := by have := hs.1; unfold maxLen; omega
    have lc : x.kids.length ≤ maxLen := by have := hs.2.2; unfold maxLen; omega
    have I0 := StInv.start (q := 6400) (m := 9) (l := 9) (by omega) (by omega) (by omega) (by omega) (by omega) (by omega)
    have hn8 := HX.out.1.mod H8.out.mod
    have HSH := Lib.hid hs
    cases hf : Nd.fitB t x with
    | false =>
      have hmk := bnmake_arg (sk := sk) (sv := sv) (ck := ck) (cv := cv) (cc := cc) H8.out 1 rfl I0 hn8.kids lk lc hf
      rw [HV.out] at hmk
      have HF := Lib.hid hf
      have HI0 := Lib.hid I0
      clear hs lk lc I0 hn8 hf
      go_wp2_with fail
      refine hmk.mono ?_
      rintro e w9 ⟨rfl, hm9⟩
      have H9 := Lib.hid (H8.out.more hm9)
      clear hmk hm9 H8 p0 p1 p2 p3
      cases hd : Nd.degB t with
      | false =>
        have hg := bnget_arg H9.out 1 rfl HI0.out t 0 hd
        have hw := fun W => bnwords_call t W
        simp only [hd, Bool.false_eq_true, if_false] at hw
        have HW := Lib.hid hw
        have htt : t < 2 ∨ 16 < t := by
          unfold Nd.degB at hd
          simp only [Bool.and_eq_false_iff, decide_eq_false_iff_not] at hd
          omega
        clear hd hw
        go_wp2_with fail
        refine hg.mono ?_
        rintro e w10 ⟨rfl, hm10⟩
        have HM : Hid (Mod No w (w10.alloc (.cells #[.slice none 0 0, .slice none 0 0, .slice none 0 0, .int .u64 0] 117))) := ((H9.out.more hm10).mod).alloc _
        clear hg hm10 H9
        rcases htt with htt | htt
        · have d1 : decide (t < 2) = true := ltT htt
          clear htt
          go_wp2_with fail
          refine (HW.out _).mono ?_
          rintro e w' ⟨rfl, rfl⟩
          go_wp2_with fail
          have ha := awake15_call (w10.alloc (.cells #[.slice none 0 0, .slice none 0 0, .slice none 0 0, .int .u64 0] 117)) (HT.out.mod HM.out)
          go_wp2_with fail
          refine ha.mono ?_
          rintro e w9 ⟨rfl, hm9⟩
          have H9 := Lib.hid (HM.out.trans' hm9)
          clear ha hm9
          go_wp2
          go_ret
          exact ⟨rfl, H9.out.below _ (Nat.le_refl _) (fun _ _ x => x)⟩
        · have d1 : decide (t < 2) = false := ltF (by omega)
          have d2 : decide (16 < t) = true := ltT htt
          clear htt
          go_wp2_with fail
          refine (HW.out _).mono ?_
          rintro e w' ⟨rfl, rfl⟩
          go_wp2_with fail
          have ha := awake15_call (w10.alloc (.cells #[.slice none 0 0, .slice none 0 0, .slice none 0 0, .int .u64 0] 117)) (HT.out.mod HM.out)
          go_wp2_with fail
          refine ha.mono ?_
          rintro e w9 ⟨rfl, hm9⟩
          have H9 := Lib.hid (HM.out.trans' hm9)
          clear ha hm9
          go_wp2
          go_ret
          exact ⟨rfl, H9.out.below _ (Nat.le_refl _) (fun _ _ x => x)⟩
      | true =>
        have hg := bnget_stale H9.out 1 rfl HI0.out t hd
        have hw := fun W => bnwords_call t W
        simp only [hd, if_true] at hw
        have HW := Lib.hid hw
        have htt : 2 ≤ t ∧ t ≤ 16 := by simpa [Nd.degB] using hd
        have d1 : decide (t < 2) = false := ltF (by omega)
        have d2 : decide (16 < t) = false := ltF (by omega)
        have e6 : IntKind.i64.wrap (6 * t) = 6 * t := by rw [IntKind.wrap_i64]; omega
        clear hd hw htt
        go_wp2_with fail
        refine hg.mono ?_
        rintro e w10 ⟨rfl, hm10⟩
        have h10 := (H9.out.more hm10).more ((Mod.refl No w10).alloc (.cells #[.slice none 0 0, .slice none 0 0, .slice none 0 0, .int .u64 0] 117))
        have hrf := rfits_call (sk := sk) (sv := sv) (ck := ck) (cv := cv) (cc := cc) (HX.out.1.mod h10.mod).kids HSH.out t
        rw [HV.out, HF.out] at hrf
        have p0 := (h10.cell 0 rfl 0 (v := .slice sk nk ck) rfl).1
        have p1 := (h10.cell 0 rfl 1 (v := .slice sv nv cv) rfl).1
        have p2 := (h10.cell 0 rfl 2 (v := .slice sc nc cc) rfl).1
        have p3 := (h10.cell 0 rfl 3 (v := .int .u64 sz) rfl).1
        have H10 := Lib.hid h10.mod
        clear hg hm10 H9 h10
        go_wp2_with fail
        refine hrf.mono ?_
        rintro e w11 ⟨rfl, hm11⟩
        have HM := Lib.hid (H10.out.trans' hm11)
        clear hrf hm11 H10 p0 p1 p2 p3
        go_wp2_with fail
        refine (HW.out _).mono ?_
        rintro e w' ⟨rfl, rfl⟩
        go_wp2_with fail
        have ha := awake15_call w11 (HT.out.mod HM.out)
        go_wp2_with fail
        refine ha.mono ?_
        rintro e w9 ⟨rfl, hm9⟩
        have H9 := Lib.hid (HM.out.trans' hm9)
        clear ha hm9
        go_wp2
        go_ret
        exact ⟨rfl, H9.out.below _ (Nat.le_refl _) (fun _ _ x => x)⟩
    | true =>
      have hdg : Nd.degB t = true := by
        unfold Nd.fitB at hf
        simp only [Bool.and_eq_true] at hf
        exact hf.1.1.1
      have htr : 2 ≤ t ∧ t ≤ 16 := by simpa [Nd.degB] using hdg
      obtain ⟨tn, rfl⟩ := Int.eq_ofNat_of_zero_le (show 0 ≤ t by omega)
      obtain ⟨n6, hn6⟩ : ∃ n, 6 * tn = n := ⟨_, rfl⟩
      have h96 : n6 ≤ 96 ∧ 12 ≤ n6 := by omega
      obtain ⟨S1, T1, H1', a1, M, hpg⟩ := StInv.first (q := 6400) (m := 9) (la := 9) (n := (n6 : Int)) (by omega) (by omega) (by omega) (by omega) (by omega) (by omega) (by omega) (by omega) (by unfold Slb.pagesOf; split <;> omega)
      have hxx : ∀ (wr : World) (S1 : Slb) (T1 : HTbl), Sep No w wr ([cellsAt B #[.slice sk nk ck, .slice sv nv cv, .slice sc nc cc, .int .u64 sz] 117, stR b 9 9 (Slb.empty 6400) ⟨9, 9, []⟩].set 1 (stR b 9 9 S1 T1)) → NdAt wr sk sv sc x := fun wr S1 T1 h => HX.out.1.mod h.mod
      have hmk := bnmake_ok (sk := sk) (sv := sv) (ck := ck) (cv := cv) (cc := cc) H8.out 1 rfl I0 (HT.out.mod H8.out.mod) hxx HX.out.2 lk lc (t := tn) hf hn6 M
      rw [HV.out] at hmk
      have HF := Lib.hid hf
      have HDG := Lib.hid hdg
      clear hs lk lc I0 hn8 hf hdg hxx M hpg hn6
      go_wp2_with fail
      refine hmk.mono ?_
      rintro e w9 ⟨⟨S2, a2⟩, ⟨rfl, I2, -, -⟩, h9⟩
      have H9 : Hid (Sep No w w9 [cellsAt B #[.slice sk nk ck, .slice sv nv cv, .slice sc nc cc, .int .u64 sz] 117, stR b 9 9 S2 T1]) := h9
      have hg := bnget_stale H9.out 1 rfl I2 (tn : Int) HDG.out
      have hd := HDG.out
      clear hmk h9 I2 H8 p0 p1 p2 p3
      have hw := fun W => bnwords_call (tn : Int) W
      simp only [hd, if_true] at hw
      have HW := Lib.hid hw
      have htt : 2 ≤ (tn : Int) ∧ (tn : Int) ≤ 16 := by simpa [Nd.degB] using hd
      have d1 : decide ((tn : Int) < 2) = false := ltF (by omega)
      have d2 : decide (16 < (tn : Int)) = false := ltF (by omega)
      have e6 : IntKind.i64.wrap (6 * (tn : Int)) = 6 * (tn : Int) := by rw [IntKind.wrap_i64]; omega
      clear hd hw htt
      go_wp2_with fail
      refine hg.mono ?_
      rintro e w10 ⟨rfl, hm10⟩
      have h10 := (H9.out.more hm10).more ((Mod.refl No w10).alloc (.cells #[.slice none 0 0, .slice none 0 0, .slice none 0 0, .int .u64 0] 117))
      have hrf := rfits_call (sk := sk) (sv := sv) (ck := ck) (cv := cv) (cc := cc) (HX.out.1.mod h10.mod).kids HSH.out (tn : Int)
      rw [HV.out, HF.out] at hrf
      have p0 := (h10.cell 0 rfl 0 (v := .slice sk nk ck) rfl).1
      have p1 := (h10.cell 0 rfl 1 (v := .slice sv nv cv) rfl).1
      have p2 := (h10.cell 0 rfl 2 (v := .slice sc nc cc) rfl).1
      have p3 := (h10.cell 0 rfl 3 (v := .int .u64 sz) rfl).1
      have H10 := Lib.hid h10.mod
      clear hg hm10 H9 h10
      go_wp2_with fail
      refine hrf.mono ?_
      rintro e w11 ⟨rfl, hm11⟩
      have HM := Lib.hid (H10.out.trans' hm11)
      clear hrf hm11 H10 p0 p1 p2 p3
      go_wp2_with fail
      refine (HW.out _).mono ?_
      rintro e w' ⟨rfl, rfl⟩
      go_wp2_with fail
      have ha := awake15_call w11 (HT.out.mod HM.out)
      go_wp2_with fail
      refine ha.mono ?_
      rintro e w9 ⟨rfl, hm9⟩
      have H9 := Lib.hid (HM.out.trans' hm9)
      clear ha hm9
      go_wp2
      go_ret
      exact ⟨rfl, H9.out.below _ (Nat.le_refl _) (fun _ _ x => x)⟩

theorem bnodeNone_walk (t hh : Int) (sa : Option Addr) (la ca : Nat) (za : List (List Int)) (sb : Option Addr) (lb cb : Nat) (zb : List (List Int)) (sc : Option Addr) (lc cc : Nat) (zc : List (List Int)) (n : Int) (w : World) (w0 : (Lit.int .i64 t).wf = true) (_ : (Lit.int .u64 hh).wf = true)
    (ra : Recs w sa la [some .u64] za) (rb : Recs w sb lb [some .u64] zb) (rc : Recs w sc lc [some .u64] zc) (wn : (Lit.int .u64 n).wf = true) (hT : Tab64 w) :
    Calls Tryz.prog 16 #[.int .i64 t, .int .u64 hh, .agg #[.slice sa la ca, .slice sb lb cb, .slice sc lc cc, .int .u64 n]] w fun e w' => e = .returned (.bool true) ∧ Below w.heap.size w w' := by
  have e : (.agg #[.slice sa la ca, .slice sb lb cb, .slice sc lc cc, .int .u64 n] : Value) = ndV sa ca sb cb sc cc ⟨lst za, lst zb, lst zc, n⟩ := by
    unfold ndV
    dsimp only
    rw [lst_len ra, lst_len rb, lst_len rc]
  rw [e]
  exact bnone_in t hh w ⟨(lst_has ra).1, (lst_has rb).1, (lst_has rc).1⟩ ⟨(lst_has ra).2, (lst_has rb).2, (lst_has rc).2, by have := bounds_u64 wn; dsimp only; omega⟩ (bounds_i64 w0) hT
end Go.Proofs.YtfmcddomciicdaaGreatDoor
