/- BnodeWords, walked. Condition: the table of math/bits holds what its initialiser lays. -/
import Derived.Test.YtfmcddomciicdaaGreatDoorBnodeB
import Derived.Test.YtfmcddomciicdaaGreatDoorBnodeNoneWalk
set_option linter.unusedVariables false
set_option linter.unusedSimpArgs false
set_option maxRecDepth 100000
namespace Go.Proofs.YtfmcddomciicdaaGreatDoor
open Go Go.RowKit


theorem Nd.Fits.short {t : Nat} {x : Nd} (F : Nd.Fits t x) : x.short := by
  have h1 := F.t16
  have h2 := F.keys
  have h3 := F.vals
  refine ⟨by omega, by omega, ?_⟩
  rcases F.kids with h | h <;> omega

set_option maxRecDepth 100000 in
set_option maxHeartbeats 4000000 in
theorem bwords_in (t : Int) {sk sv sc : Option Addr} {ck cv cc : Nat} {x : Nd} (w : World) (hx : NdAt w sk sv sc x) (hxo : x.Ok) (lk : x.keys.length ≤ maxLen) (lc : x.kids.length ≤ maxLen) (hT : Tab64 w) :
    Calls Tryz.prog 12 #[.int .i64 t, ndV sk ck sv cv sc cc x] w fun e w' => e = .returned (.bool true) ∧ Below w.heap.size w w' := by
  have HT := Lib.hid hT
  have HX := Lib.hid (And.intro hx (And.intro hxo (And.intro lk lc)))
  obtain ⟨nk, hk⟩ : ∃ n, x.keys.length = n := ⟨_, rfl⟩
  obtain ⟨nv, hv⟩ : ∃ n, x.vals.length = n := ⟨_, rfl⟩
  obtain ⟨nc, hc⟩ : ∃ n, x.kids.length = n := ⟨_, rfl⟩
  obtain ⟨sz, hsz⟩ : ∃ v, x.size = v := ⟨_, rfl⟩
  have hV : ndV sk ck sv cv sc cc x = .agg #[.slice sk nk ck, .slice sv nv cv, .slice sc nc cc, .int .u64 sz] := by unfold ndV; rw [hk, hv, hc, hsz]
  have HV := Lib.hid hV
  rw [hV]
  have h1 := (Sep.nil w).pushCells #[.slice sk nk ck, .slice sv nv cv, .slice sc nc cc, .int .u64 sz] 117
  obtain ⟨B, hB⟩ : ∃ B, w.heap.size = B := ⟨_, rfl⟩
  obtain ⟨W1, hW1⟩ : ∃ W, w.alloc (.cells #[.slice sk nk ck, .slice sv nv cv, .slice sc nc cc, .int .u64 sz] 117) = W := ⟨_, rfl⟩
  rw [hB, hW1] at h1
  have h1 : Sep No w W1 [cellsAt B #[.slice sk nk ck, .slice sv nv cv, .slice sc nc cc, .int .u64 sz] 117] := h1
  have hn := stnew_call h1 6400 9 9 (by omega) (by omega) (by omega) (by omega) (by omega) (by omega)
  clear hx hxo lk lc hT h1 hk hv hc hsz hV
  go_enter Tryz.func12, Tryz.ntmps12
  go_wp2_with fail
  refine hn.mono ?_
  rintro e w3 ⟨b, rfl, h3⟩
  have h3 : Sep No w w3 [cellsAt B #[.slice sk nk ck, .slice sv nv cv, .slice sc nc cc, .int .u64 sz] 117, stR b 9 9 (Slb.empty 6400) ⟨9, 9, []⟩] := h3
  have I0 := StInv.start (q := 6400) (m := 9) (l := 9) (by omega) (by omega) (by omega) (by omega) (by omega) (by omega)
  have p0 := (h3.cell 0 rfl 0 (v := .slice sk nk ck) rfl).1
  have p1 := (h3.cell 0 rfl 1 (v := .slice sv nv cv) rfl).1
  have p2 := (h3.cell 0 rfl 2 (v := .slice sc nc cc) rfl).1
  have p3 := (h3.cell 0 rfl 3 (v := .int .u64 sz) rfl).1
  have hx3 := HX.out.1.mod h3.mod
  cases hf : Nd.fitB t x with
  | false =>
    have hmk := bnmake_arg (sk := sk) (sv := sv) (ck := ck) (cv := cv) (cc := cc) h3 1 rfl I0 hx3.kids HX.out.2.2.1 HX.out.2.2.2 hf
    rw [HV.out] at hmk
    have HF := Lib.hid hf
    have H3 := Lib.hid h3
    clear hn h3 I0 hx3 hf
    go_wp2_with fail
    refine hmk.mono ?_
    rintro e w4 ⟨rfl, hm4⟩
    have h4 := H3.out.more hm4
    have hlg := long_call sk ck sv cv sc cc x w4
    rw [HV.out] at hlg
    clear p0 p1 p2 p3
    have p0 := (h4.cell 0 rfl 0 (v := .slice sk nk ck) rfl).1
    have p1 := (h4.cell 0 rfl 1 (v := .slice sv nv cv) rfl).1
    have p2 := (h4.cell 0 rfl 2 (v := .slice sc nc cc) rfl).1
    have p3 := (h4.cell 0 rfl 3 (v := .int .u64 sz) rfl).1
    have H4 := Lib.hid h4
    clear hmk hm4 H3 h4
    go_wp2_with fail
    refine hlg.mono ?_
    rintro e w5 ⟨c, rfl, hcs, hm5⟩
    have h5 := H4.out.more hm5
    have hlg := long_call sk ck sv cv sc cc x w5
    rw [HV.out] at hlg
    clear p0 p1 p2 p3
    have p0 := (h5.cell 0 rfl 0 (v := .slice sk nk ck) rfl).1
    have p1 := (h5.cell 0 rfl 1 (v := .slice sv nv cv) rfl).1
    have p2 := (h5.cell 0 rfl 2 (v := .slice sc nc cc) rfl).1
    have p3 := (h5.cell 0 rfl 3 (v := .int .u64 sz) rfl).1
    have H5 := Lib.hid h5
    have HCS := Lib.hid hcs
    clear hm5 H4 h5 hcs
    cases c with
    | true =>
      go_wp2_with fail
      refine hlg.mono ?_
      rintro e w6 ⟨c, rfl, hcs, hm6⟩
      have HM := Lib.hid (H5.out.more hm6).mod
      clear hlg hm6 H5 hcs p0 p1 p2 p3
      cases c with
      | true =>
        go_wp2_with fail
        have ha := awake15_call w6 (HT.out.mod HM.out)
        go_wp2_with fail
        refine ha.mono ?_
        rintro e w9 ⟨rfl, hm9⟩
        have H9 := Lib.hid (HM.out.trans' hm9)
        clear ha hm9
        go_wp2
        go_ret
        exact ⟨rfl, H9.out.below _ (Nat.le_refl _) (fun _ _ x => x)⟩
      | false =>
        go_wp2_with fail
        have ha := awake15_call w6 (HT.out.mod HM.out)
        go_wp2_with fail
        refine ha.mono ?_
        rintro e w9 ⟨rfl, hm9⟩
        have H9 := Lib.hid (HM.out.trans' hm9)
        clear ha hm9
        go_wp2
        go_ret
        exact ⟨rfl, H9.out.below _ (Nat.le_refl _) (fun _ _ x => x)⟩
    | false =>
      have hrf := rfits_call (sk := sk) (sv := sv) (ck := ck) (cv := cv) (cc := cc) (HX.out.1.mod H5.out.mod).kids (HCS.out.1 (by trivial)) t
      rw [HV.out, HF.out] at hrf
      go_wp2_with fail
      refine hrf.mono ?_
      rintro e w6 ⟨rfl, hm6⟩
      have h6 := H5.out.more hm6
      have hlg := long_call sk ck sv cv sc cc x w6
      rw [HV.out] at hlg
      clear p0 p1 p2 p3
      have p0 := (h6.cell 0 rfl 0 (v := .slice sk nk ck) rfl).1
      have p1 := (h6.cell 0 rfl 1 (v := .slice sv nv cv) rfl).1
      have p2 := (h6.cell 0 rfl 2 (v := .slice sc nc cc) rfl).1
      have p3 := (h6.cell 0 rfl 3 (v := .int .u64 sz) rfl).1
      have H6 := Lib.hid h6
      clear hrf hm6 H5 h6
      go_wp2_with fail
      refine hlg.mono ?_
      rintro e w7 ⟨c, rfl, hcs, hm7⟩
      have HM := Lib.hid (H6.out.more hm7).mod
      clear hlg hm7 H6 hcs p0 p1 p2 p3
      cases c with
      | true =>
        go_wp2_with fail
        have ha := awake15_call w7 (HT.out.mod HM.out)
        go_wp2_with fail
        refine ha.mono ?_
        rintro e w9 ⟨rfl, hm9⟩
        have H9 := Lib.hid (HM.out.trans' hm9)
        clear ha hm9
        go_wp2
        go_ret
        exact ⟨rfl, H9.out.below _ (Nat.le_refl _) (fun _ _ x => x)⟩
      | false =>
        go_wp2_with fail
        have ha := awake15_call w7 (HT.out.mod HM.out)
        go_wp2_with fail
        refine ha.mono ?_
        rintro e w9 ⟨rfl, hm9⟩
        have H9 := Lib.hid (HM.out.trans' hm9)
        clear ha hm9
        go_wp2
        go_ret
        exact ⟨rfl, H9.out.below _ (Nat.le_refl _) (fun _ _ x => x)⟩
  | true =>
    have hdg : Nd.degB t = true := by
      unfold Nd.fitB at hf
      simp only [Bool.and_eq_true] at hf
      exact hf.1.1.1
    have htr : 2 ≤ t ∧ t ≤ 16 := by simpa [Nd.degB] using hdg
    obtain ⟨tn, rfl⟩ := Int.eq_ofNat_of_zero_le (show 0 ≤ t by omega)
    obtain ⟨n6, hn6⟩ : ∃ n, 6 * tn = n := ⟨_, rfl⟩
    have h96 : n6 ≤ 96 ∧ 12 ≤ n6 := by omega
    have F := Nd.Fits.of hf
    obtain ⟨S1, T1, H1', a1, M, hpg⟩ := StInv.first (q := 6400) (m := 9) (la := 9) (n := (n6 : Int)) (by omega) (by omega) (by omega) (by omega) (by omega) (by omega) (by omega) (by omega) (by unfold Slb.pagesOf; split <;> omega)
    have hxx : ∀ (wr : World) (S1 : Slb) (T1 : HTbl), Sep No w wr ([cellsAt B #[.slice sk nk ck, .slice sv nv cv, .slice sc nc cc, .int .u64 sz] 117, stR b 9 9 (Slb.empty 6400) ⟨9, 9, []⟩].set 1 (stR b 9 9 S1 T1)) → NdAt wr sk sv sc x := fun wr S1 T1 h => HX.out.1.mod h.mod
    have hmk := bnmake_ok (sk := sk) (sv := sv) (ck := ck) (cv := cv) (cc := cc) h3 1 rfl I0 (HT.out.mod h3.mod) hxx HX.out.2.1 HX.out.2.2.1 HX.out.2.2.2 (t := tn) hf hn6 M
    rw [HV.out] at hmk
    have HF := Lib.hid (And.intro hf (And.intro F (And.intro hdg hn6)))
    clear hn h3 I0 hx3 hf F hxx M hpg hdg hn6
    go_wp2_with fail
    refine hmk.mono ?_
    rintro e w4 ⟨⟨S2, a2⟩, ⟨rfl, I2, -, -⟩, h4⟩
    have h4 : Sep No w w4 [cellsAt B #[.slice sk nk ck, .slice sv nv cv, .slice sc nc cc, .int .u64 sz] 117, stR b 9 9 S2 T1] := h4
    have I2 : StInv S2 T1 H1' [⟨4294967297, (a2 : Int), Nd.ws tn x⟩] := I2
    have HI := Lib.hid I2
    have hlg := long_call sk ck sv cv sc cc x w4
    rw [HV.out] at hlg
    clear p0 p1 p2 p3
    have p0 := (h4.cell 0 rfl 0 (v := .slice sk nk ck) rfl).1
    have p1 := (h4.cell 0 rfl 1 (v := .slice sv nv cv) rfl).1
    have p2 := (h4.cell 0 rfl 2 (v := .slice sc nc cc) rfl).1
    have p3 := (h4.cell 0 rfl 3 (v := .int .u64 sz) rfl).1
    have H4 := Lib.hid h4
    clear hmk h4 I2
    go_wp2_with fail
    refine hlg.mono ?_
    rintro e w5 ⟨c, rfl, hcs, hm5⟩
    have hc0 : c = false := hcs.2 HF.out.2.1.short
    have h5 := H4.out.more hm5
    have hrf := rfits_call (sk := sk) (sv := sv) (ck := ck) (cv := cv) (cc := cc) (HX.out.1.mod h5.mod).kids HF.out.2.1.short (tn : Int)
    rw [HV.out, HF.out.1] at hrf
    clear p0 p1 p2 p3 hcs
    subst hc0
    have p0 := (h5.cell 0 rfl 0 (v := .slice sk nk ck) rfl).1
    have p1 := (h5.cell 0 rfl 1 (v := .slice sv nv cv) rfl).1
    have p2 := (h5.cell 0 rfl 2 (v := .slice sc nc cc) rfl).1
    have p3 := (h5.cell 0 rfl 3 (v := .int .u64 sz) rfl).1
    have H5 := Lib.hid h5
    clear hlg hm5 H4 h5
    go_wp2_with fail
    refine hrf.mono ?_
    rintro e w6 ⟨rfl, hm6⟩
    have h6 := H5.out.more hm6
    have hrw := rwords_call (sk := sk) (sv := sv) (sc := sc) (ck := ck) (cv := cv) (cc := cc) (HX.out.1.mod h6.mod) HF.out.2.1.short HF.out.2.1
    rw [HV.out, HF.out.2.2.2] at hrw
    clear p0 p1 p2 p3
    have p0 := (h6.cell 0 rfl 0 (v := .slice sk nk ck) rfl).1
    have p1 := (h6.cell 0 rfl 1 (v := .slice sv nv cv) rfl).1
    have p2 := (h6.cell 0 rfl 2 (v := .slice sc nc cc) rfl).1
    have p3 := (h6.cell 0 rfl 3 (v := .int .u64 sz) rfl).1
    have H6 := Lib.hid h6
    clear hrf hm6 H5 h6
    go_wp2_with fail
    refine hrw.mono ?_
    rintro e w7 ⟨sa, ca, rfl, h7⟩
    have h8 : Sep No w w7 [cellsAt B #[.slice sk nk ck, .slice sv nv cv, .slice sc nc cc, .int .u64 sz] 117, stR b 9 9 S2 T1, rwR (.slice sa n6 ca) n6 (Nd.ws tn x)] := by
      exact (H6.out.join h7)
    have hwl : (Nd.ws tn x).length = n6 := by rw [Nd.ws_len]; exact HF.out.2.2.2
    have hL := stlen_call h8 1 rfl HI.out (hh := 4294967297) (by omega) (.ok 0 ⟨4294967297, (a2 : Int), Nd.ws tn x⟩ ⟨rfl, Int.natCast_nonneg a2, rfl⟩)
    rw [hwl] at hL
    have hW := bnwords_call (tn : Int) w7
    rw [HF.out.2.2.1, if_pos rfl, show 6 * (tn : Int) = (n6 : Int) by have := HF.out.2.2.2; omega] at hW
    have H8 := Lib.hid h8
    have HL := Lib.hid hwl
    have d0 : ((n6 : Int) != (n6 : Int)) = false := bneF rfl
    clear hrw h7 h8 H6 hwl p0 p1 p2 p3
    go_wp2_with fail
    refine hL.mono ?_
    rintro e w' ⟨rfl, rfl⟩
    clear hL
    go_wp2_with fail
    refine hW.mono ?_
    rintro e w' ⟨rfl, rfl⟩
    clear hW
    go_wp2_with fail
    go_loopw [12] (fun iv wr => ∃ k : Nat, iv = .int .i64 k ∧ k ≤ n6 ∧ wr = w7) (fun iv _ => n6 - (RowKit.intOf iv).toNat)
    case atStart => exact ⟨0, rfl, Nat.zero_le _, rfl⟩
    case round =>
      obtain ⟨k, rfl, hk, rfl⟩ := hrel
      by_cases hlt : k < n6
      · obtain ⟨v, hxk⟩ : ∃ v, (Nd.ws tn x)[k]? = some v := ⟨_, List.getElem?_eq_getElem (by rw [HL.out]; exact hlt)⟩
        have hc := stget_call H8.out 1 rfl HI.out (hh := 4294967297) (k := (k : Nat)) (by omega) (getOk (j := 0) (i := k) (x := v) (r := ⟨4294967297, (a2 : Int), Nd.ws tn x⟩) rfl (Int.natCast_nonneg a2) hxk)
        obtain ⟨g, rfl, cx, _⟩ := H8.out.item 2 rfl (o := k) (x := .int .u64 v) (by rw [List.getElem?_map, hxk]; rfl)
        have dI : decide ((k : Int) < (n6 : Int)) = true := ltT (by omega)
        have dx : (v != v) = false := bneF rfl
        have hki : (k : Int) < (n6 : Int) := by omega
        have k96 : k ≤ 96 := by omega
        clear hxk hlt
        go_wp2_with fail
        refine hc.mono ?_
        rintro e w' ⟨rfl, rfl⟩
        clear hc
        go_wp2
        go_roundw
        case rel => exact ⟨k + 1, by go_num, by omega, trivial⟩
        case measure => simp [RowKit.intOf]; omega
      · have dI : decide ((k : Int) < (n6 : Int)) = false := ltF (by omega)
        have dI2 : decide (k < n6) = false := decide_eq_false hlt
        have HM := Lib.hid H8.out.mod
        clear hlt H8
        go_wp2_with fail
        have ha := awake15_call wr (HT.out.mod HM.out)
        go_wp2_with fail
        refine ha.mono ?_
        rintro e w9 ⟨rfl, hm9⟩
        have H9 := Lib.hid (HM.out.trans' hm9)
        clear ha hm9
        go_wp2
        go_ret
        exact ⟨rfl, H9.out.below _ (Nat.le_refl _) (fun _ _ x => x)⟩

theorem bnodeWords_walk (t : Int) (sa : Option Addr) (la ca : Nat) (za : List (List Int)) (sb : Option Addr) (lb cb : Nat) (zb : List (List Int)) (sc : Option Addr) (lc cc : Nat) (zc : List (List Int)) (n : Int) (w : World) (w0 : (Lit.int .i64 t).wf = true)
    (ra : Recs w sa la [some .u64] za) (rb : Recs w sb lb [some .u64] zb) (rc : Recs w sc lc [some .u64] zc) (wn : (Lit.int .u64 n).wf = true) (hT : Tab64 w) :
    Calls Tryz.prog 12 #[.int .i64 t, .agg #[.slice sa la ca, .slice sb lb cb, .slice sc lc cc, .int .u64 n]] w fun e w' => e = .returned (.bool true) ∧ Below w.heap.size w w' := by
  have e : (.agg #[.slice sa la ca, .slice sb lb cb, .slice sc lc cc, .int .u64 n] : Value) = ndV sa ca sb cb sc cc ⟨lst za, lst zb, lst zc, n⟩ := by
    unfold ndV
    dsimp only
    rw [lst_len ra, lst_len rb, lst_len rc]
  rw [e]
  exact bwords_in t w ⟨(lst_has ra).1, (lst_has rb).1, (lst_has rc).1⟩ ⟨(lst_has ra).2, (lst_has rb).2, (lst_has rc).2, by have := bounds_u64 wn; dsimp only; omega⟩ (by rw [lst_len ra]; exact ra.max) (by rw [lst_len rc]; exact rc.max) hT
end Go.Proofs.YtfmcddomciicdaaGreatDoor
