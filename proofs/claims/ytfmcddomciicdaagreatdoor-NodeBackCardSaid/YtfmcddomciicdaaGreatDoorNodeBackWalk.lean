/- NodeBack, walked. Condition: the table of math/bits holds what its initialiser lays. -/
import Derived.Test.YtfmcddomciicdaaGreatDoorNodeBackSpec
import Derived.Test.YtfmcddomciicdaaGreatDoorCompactB
import Derived.Test.YtfmcddomciicdaaGreatDoorAwake10
import Derived.BigQuiet
import Derived.Deep.QuietTactic
import Derived.Deep.RegionHeld3
import Derived.Deep.DeepCutAuto
set_option linter.unusedVariables false
set_option linter.unusedSimpArgs false
set_option maxRecDepth 100000
namespace Go.Proofs.YtfmcddomciicdaaGreatDoor
open Go Go.RowKit

abbrev K6 : List (Option IntKind) := [some .u64, some .u64, some .u64, some .u64, some .u64, some .u64]
abbrev K9 : List (Option IntKind) := [some .i64, some .i64, some .i64, some .u64, some .u64, some .u64, some .u64, some .u64, some .u64]

theorem nb_src {w : World} {s : Option Addr} {len cap : Nat} {z : List (List Int)} (R : Recs w s len K6 z) (hc : s = none → cap = 0) : SrcOf w 6 (.slice s len cap) len (nwv z) := by
  by_cases h0 : len = 0
  · subst h0
    have hz : z = [] := List.eq_nil_of_length_eq_zero R.count
    subst hz
    cases s with
    | none => exact .inl ⟨by rw [hc rfl], rfl, rfl⟩
    | some a => exact .inr ⟨a, cap, rfl, rfl, fun j u hj => by simp [nwv] at hj, fun u hu => by simp [nwv] at hu⟩
  · obtain ⟨b, off, rfl, hb, hcs⟩ := R.cells (by omega)
    refine .inr ⟨_, cap, rfl, by rw [nwv_len, R.count]; omega, fun p u hp => ?_, nwv_one z⟩
    have hpl : p < 6 * z.length := by rw [← nwv_len]; exact (List.getElem?_eq_some_iff.1 hp).1
    rw [nwv_get hpl] at hp
    cases hp
    have hi : z[p / 6]? = some (z[p / 6]'(by omega)) := List.getElem?_eq_getElem _
    have hl := (R.ok _ (List.mem_of_getElem? hi)).1
    have hl : (z[p / 6]'(by omega)).length = 6 := hl
    have hj : (z[p / 6]'(by omega))[p % 6]? = some ((z[p / 6]'(by omega))[p % 6]'(by omega)) := List.getElem?_eq_getElem _
    have hk : K6[p % 6]? = some (some .u64) := by
      rcases (by omega : p % 6 = 0 ∨ p % 6 = 1 ∨ p % 6 = 2 ∨ p % 6 = 3 ∨ p % 6 = 4 ∨ p % 6 = 5) with h | h | h | h | h | h <;> rw [h] <;> rfl
    have := hcs (p / 6) _ hi (p % 6) _ _ hk hj
    rw [addr_add]
    have e : off + p / 6 * K6.length + p % 6 = off + p := by show off + p / 6 * 6 + p % 6 = off + p; omega
    rw [e] at this
    have hv : (z.getD (p / 6) []).getD (p % 6) 0 = (z[p / 6]'(by omega))[p % 6]'(by omega) := by
      have h1 : z.getD (p / 6) [] = z[p / 6]'(by omega) := by rw [List.getD_eq_getElem?_getD, hi]; rfl
      rw [h1, List.getD_eq_getElem?_getD, hj]
      rfl
    rw [this, hv]
    rfl
theorem bu64 {x : Int} (h : fok (some .u64) x) : 0 ≤ x ∧ x < 18446744073709551616 := by have := bounds_u64 h; omega
theorem nb_cells {F0 : Nat → Prop} {w0 w : World} {Ps : List Res} (h : Sep F0 w0 w Ps) (i : Nat) {sw : Option Addr} {n cw : Nat} {ws : List (List Int)} (hi : Ps[i]? = some (rowAt 109 6 (.slice sw n cw) n (nwv ws))) {k : Nat} {x0 x1 x2 x3 x4 x5 : Int} (hk : ws[k]? = some [x0, x1, x2, x3, x4, x5]) :
    ∃ g, sw = some ⟨g, 0, none⟩ ∧ (w.cell? ⟨g, k * 6, none⟩ = some (.int .u64 x0) ∧ w.cell? ⟨g, k * 6 + 1, none⟩ = some (.int .u64 x1) ∧ w.cell? ⟨g, k * 6 + 2, none⟩ = some (.int .u64 x2) ∧ w.cell? ⟨g, k * 6 + 3, none⟩ = some (.int .u64 x3) ∧ w.cell? ⟨g, k * 6 + 4, none⟩ = some (.int .u64 x4) ∧ w.cell? ⟨g, k * 6 + 5, none⟩ = some (.int .u64 x5)) ∧ ∀ o, w.frozen? ⟨g, o, none⟩ = false := by
  obtain ⟨a0, a1, a2, a3, a4, a5⟩ := nwv_at hk
  obtain ⟨g, rfl, c0, f⟩ := h.item i hi a0
  obtain ⟨g1, e1, c1, _⟩ := h.item i hi a1
  cases e1
  obtain ⟨g2, e2, c2, _⟩ := h.item i hi a2
  cases e2
  obtain ⟨g3, e3, c3, _⟩ := h.item i hi a3
  cases e3
  obtain ⟨g4, e4, c4, _⟩ := h.item i hi a4
  cases e4
  obtain ⟨g5, e5, c5, _⟩ := h.item i hi a5
  cases e5
  exact ⟨g, rfl, ⟨c0, c1, c2, c3, c4, c5⟩, f⟩
theorem six_of {l : List Int} (h : l.length = 6) : ∃ x0 x1 x2 x3 x4 x5, l = [x0, x1, x2, x3, x4, x5] := by
  match l, h with
  | [a, b, c, d, e, f], _ => exact ⟨a, b, c, d, e, f, rfl⟩

theorem infoNodeNB : (Tryz.prog.info? 109).map (fun i => (i.zero, i.size, i.bytes)) = some (some (nodeV 0 0 0 0 0 0), 6, 48) := by kernel_rfl
theorem infoHdlNB : (Tryz.prog.info? 45).map (fun i => (i.zero, i.size, i.bytes)) = some (some (.int .u64 0), 1, 8) := by kernel_rfl

def NbRel1 (w : World) (b cb : Nat) (z : List (List Int)) (lv wv : Value) (n i : Nat) (wr : World) : Prop := ∃ (S : Slb) (T : HTbl) (H : List Ent) (R : List Rc), Nodes S T H R 4000 100 i ∧ 6 * S.pg.length ≤ i + 5 ∧ R.map (·.w) = z.take i ∧
  Sep No w wr [stR b 100 4294967295 S T, cpR cb b, rowAt 109 6 wv n (nwv z), rowAt 45 1 lv i (hds R)]
def NbRel2 (w : World) (b cb : Nat) (lv wv : Value) (n : Nat) (wr : World) : Prop := ∃ (S : Slb) (T : HTbl) (H : List Ent) (R : List Rc), NB S T H R n ∧
  Sep No w wr [stR b 100 4294967295 S T, cpR cb b, rowAt 109 6 wv n (nwv (R.map (·.w))), rowAt 45 1 lv n (hds R)]

theorem hds_atN {R : List Rc} {k : Nat} {r : Rc} (h : R[k]? = some r) : (hds R)[k]? = some (.int .u64 r.h) := by
  unfold hds
  rw [List.getElem?_map, List.getElem?_map, h]
  rfl


set_option maxRecDepth 100000 in
set_option maxHeartbeats 8000000 in
theorem nback_in (s0 : Option Addr) (len0 cap0 : Nat) (z0 : List (List Int)) (s1 : Option Addr) (len1 cap1 : Nat) (z1 : List (List Int)) (K : Nat) (w : World) (R0 : Recs w s0 len0 K6 z0) (hnc : s0 = none → cap0 = 0) (hl0 : len0 ≤ 60) (R1 : Recs w s1 len1 K9 z1) (hl1 : len1 ≤ 60) (hK : K ≤ 200) (hT : Tab64 w) :
    Calls Tryz.prog 11 #[.slice s0 len0 cap0, .slice s1 len1 cap1, .int .i64 (K : Nat)] w fun e w' => e = .returned (.bool true) ∧ Below w.heap.size w w' := by
  have d1 : decide ((60 : Int) < (len0 : Int)) = false := ltF (by omega)
  have d2 : decide ((60 : Int) < (len1 : Int)) = false := ltF (by omega)
  have d3 : decide ((K : Int) < 0) = false := ltF (by omega)
  have d4 : decide ((200 : Int) < (K : Int)) = false := ltF (by omega)
  have HR0 := Lib.hid (And.intro R0 hnc)
  have HR1 := Lib.hid R1
  have HT := Lib.hid hT
  obtain ⟨i0, hi0, hz0, hz1, hz2⟩ := info_parts infoHdlNB
  have HI := Lib.hid (And.intro hi0 (And.intro hz0 (And.intro hz1 hz2)))
  obtain ⟨i1, hi1, hy0, hy1, hy2⟩ := info_parts infoNodeNB
  clear R0 R1 hT hi0 hz0 hz1 hz2 hnc
  go_enter Tryz.func11, Tryz.ntmps11
  go_wp2_with fail
  refine (stnew_call (Sep.nil w) 4000 100 4294967295 (by omega) (by omega) (by omega) (by omega) (by omega) (by omega)).mono ?_
  rintro e w1 ⟨b, rfl, h1⟩
  have I0 := StInv.start (q := 4000) (m := 100) (l := 4294967295) (by omega) (by omega) (by omega) (by omega) (by omega) (by omega)
  have hc := cnew_call h1 0 rfl I0
  have HI0 := Lib.hid I0
  clear h1 I0 d1 d2 d3 d4
  go_wp2_with fail
  refine hc.mono ?_
  rintro e w2 ⟨cb, rfl, h2⟩
  have hE : Sep No w (w2.alloc (.cells #[] 109)) [stR b 100 4294967295 (Slb.empty 4000) ⟨100, 4294967295, []⟩, cpR cb b, rowAt 109 6 (.slice (some ⟨w2.heap.size, 0, none⟩) 0 0) 0 []] := h2.pushEmpty _ _
  have hsrc : SrcOf (w2.alloc (.cells #[] 109)) 6 (.slice s0 len0 cap0) len0 (nwv z0) := nb_src (HR0.out.1.below hE.mod (fun k _ h => h)) HR0.out.2
  clear hc h2
  go_wp2_with (at_builtin; refine wpList_append_src hE 2 rfl (by rfl) _ _ 105 rfl Tryz.underlying105 hi1 hy0 hy1 hy2 rfl (by decide) (by rfl) _ (by rfl) hsrc (by unfold maxLen; omega) (by omega) ?_)
  try simp only [Nat.zero_add, List.nil_append]
  intro sw cw w3 h3
  have h3 : Sep No w w3 [stR b 100 4294967295 (Slb.empty 4000) ⟨100, 4294967295, []⟩, cpR cb b, rowAt 109 6 (.slice sw len0 cw) len0 (nwv z0)] := h3
  have hst : Hid (NbRel1 w b cb z0 (.slice none 0 0) (.slice sw len0 cw) len0 0 w3) := ⟨_, _, [], [], ⟨HI0.out, rfl, rfl, rfl, by simp, by simp, HTbl.AllOpen.new⟩, by show 6 * 0 ≤ 0 + 5; omega, rfl, h3.pushNil 45 1⟩
  clear hE hsrc h3 HI0 hi1 hy0 hy1 hy2
  go_wp2_with fail
  go_loopw [11, 13] (fun lv i wr => ∃ j : Nat, i = .int .i64 j ∧ j ≤ len0 ∧ NbRel1 w b cb z0 lv (.slice sw len0 cw) len0 j wr) (fun _ i _ => len0 - (RowKit.intOf i).toNat)
  case atStart => exact ⟨0, rfl, Nat.zero_le _, hst.out⟩
  case round =>
    obtain ⟨j, rfl, hj, S, T, H, R, N, hpg, hws, h⟩ := hrel
    clear hst
    obtain ⟨sl, cl, rfl⟩ := h.form 3 rfl
    by_cases hlt : j < len0
    · obtain ⟨bb, off, rfl, hb, hc⟩ := HR0.out.1.cells (by omega)
      have hzj : z0[j]? = some (z0[j]'(by rw [HR0.out.1.count]; exact hlt)) := List.getElem?_eq_getElem _
      obtain ⟨hrl, hro⟩ := HR0.out.1.ok _ (List.mem_of_getElem? hzj)
      generalize z0[j]'(by rw [HR0.out.1.count]; exact hlt) = r at *
      match r, hrl with
      | [x0, x1, x2, x3, x4, x5], _ =>
      have c0 := h.old (hc j _ hzj 0 _ x0 rfl rfl)
      have c1 := h.old (hc j _ hzj 1 _ x1 rfl rfl)
      have c2 := h.old (hc j _ hzj 2 _ x2 rfl rfl)
      have c3 := h.old (hc j _ hzj 3 _ x3 rfl rfl)
      have c4 := h.old (hc j _ hzj 4 _ x4 rfl rfl)
      have c5 := h.old (hc j _ hzj 5 _ x5 rfl rfl)
      have hx : ∀ x ∈ [x0, x1, x2, x3, x4, x5], 0 ≤ x ∧ x < 18446744073709551616 := fun x hx => by
        simp only [List.mem_cons, List.not_mem_nil, or_false] at hx
        rcases hx with rfl | rfl | rfl | rfl | rfl | rfl
        · exact bu64 (hro 0 _ _ rfl rfl)
        · exact bu64 (hro 1 _ _ rfl rfl)
        · exact bu64 (hro 2 _ _ rfl rfl)
        · exact bu64 (hro 3 _ _ rfl rfl)
        · exact bu64 (hro 4 _ _ rfl rfl)
        · exact bu64 (hro 5 _ _ rfl rfl)
      simp only [List.length_cons, List.length_nil, Nat.add_zero, Nat.zero_add, Nat.reduceAdd, fv] at c0 c1 c2 c3 c4 c5
      obtain ⟨hdl, er, S', T', H', R', M⟩ := N.inv.made 6
      obtain ⟨rfl, ho, hmo⟩ := (N.made M).1 (by omega)
      have hmk := nmake_ok h 0 rfl (HT.out.mod h.mod) M hx
      have hpg' : 6 * S'.pg.length ≤ j + 1 + 5 := by
        obtain ⟨hcnt, hs0⟩ := N.count
        rcases M.pages with ⟨e, _, _⟩ | ⟨e, hno⟩
        · omega
        · have h1 : Slb.pagesOf ((6 : Int) + 2) = 1 := rfl
          have h2 : S.spare 4 = 0 := by
            refine Classical.byContradiction fun hne => ?_
            obtain ⟨a, p, NN, k, o⟩ := (N.inv.rep.spare_pos (c := 4) (by omega)).1 (by show 0 < S.spare 4; omega)
            exact hno (by omega) a p NN k o
          rw [h1] at e
          omega
      have HY : Hid (∀ (S2 : Slb) (a2 : Nat), StInv S2 T' H' (R ++ [⟨hdl, (a2 : Int), [x0, x1, x2, x3, x4, x5]⟩]) → S2.pg = S'.pg → S2.quota = S'.quota → ∀ (gg capg : Nat) (w' : World), Sep No w w' [stR b 100 4294967295 S2 T', cpR cb b, rowAt 109 6 (.slice sw len0 cw) len0 (nwv z0), rowAt 45 1 (.slice (some ⟨gg, 0, none⟩) (j + 1) capg) (j + 1) (hds R ++ [.int .u64 hdl])] → NbRel1 w b cb z0 (.slice (some ⟨gg, 0, none⟩) (j + 1) capg) (.slice sw len0 cw) len0 (j + 1) w') := fun S2 a2 I2 hp2 hq2 gg capg w' h' =>
        ⟨S2, T', H', _, N.next I2 (hq2.trans (M.quo.trans N.quo)) hmo ho, by rw [hp2]; exact hpg', by rw [List.map_append, hws, List.take_add_one, hzj]; rfl, by
          have e : hds (R ++ [(⟨hdl, (a2 : Int), [x0, x1, x2, x3, x4, x5]⟩ : Rc)]) = hds R ++ [.int .u64 hdl] := by unfold hds; rw [List.map_append, List.map_append]; rfl
          rw [e]
          exact h'⟩
      have hj60 : j ≤ 60 := by omega
      clear N hpg hws h hc hzj hro hb M ho hmo hpg' hx
      go_wp2_with fail
      refine hmk.mono ?_
      rintro e w4 ⟨⟨S2, a2⟩, ⟨rfl, I2, hp2, hq2⟩, h4⟩
      have h4 : Sep No w w4 [stR b 100 4294967295 S2 T', cpR cb b, rowAt 109 6 (.slice sw len0 cw) len0 (nwv z0), rowAt 45 1 (.slice sl j cl) j (hds R)] := h4
      have HY2 := Lib.hid (HY.out S2 a2 I2 hp2 hq2)
      obtain ⟨hi0, hz0, hz1, hz2⟩ := HI.out
      clear hmk I2 hp2 hq2 HY c0 c1 c2 c3 c4 c5
      go_wp2_with (at_builtin; refine wpList_append_sep1 h4 3 rfl (by rfl) _ _ 29 rfl Tryz.underlying29 hi0 hz0 hz1 hz2 rfl (by rfl) _ _ (by rfl) (by simp) (by rfl) _ (by unfold maxLen; omega) (by omega) ?_)
      intro gg capg w5 h5
      have H5 : Hid (NbRel1 w b cb z0 (.slice (some ⟨gg, 0, none⟩) (j + 1) capg) (.slice sw len0 cw) len0 (j + 1) w5) := HY2.out gg capg w5 h5
      clear h4 h5 hi0 hz0 hz1 hz2 HY2
      go_wp2
      go_roundw
      case rel => exact ⟨j + 1, by go_num, by omega, H5.out⟩
      case measure => simp [RowKit.intOf]; omega
    · obtain rfl : j = len0 := by omega
      have H5 : Hid (NbRel2 w b cb (.slice sl j cl) (.slice sw j cw) j wr) := ⟨S, T, H, R, ⟨N.inv, N.len, N.live, N.six, hpg⟩, by
        rw [List.take_of_length_le (by rw [HR0.out.1.count]; exact Nat.le_refl _)] at hws
        rw [hws]
        exact h⟩
      clear N hpg hws h hlt
      go_wp2_with fail
      go_loopw [16] (fun iv wr => ∃ i9 : Nat, iv = .int .i64 i9 ∧ i9 ≤ len1 ∧ NbRel2 w b cb (.slice sl j cl) (.slice sw j cw) j wr) (fun iv _ => len1 - (RowKit.intOf iv).toNat)
      case atStart => exact ⟨0, rfl, Nat.zero_le _, H5.out⟩
      case round =>
        obtain ⟨i9, rfl, hi9, S, T, H, R, N, h⟩ := hrel
        clear H5
        by_cases hlt : i9 < len1
        · by_cases hn0 : j = 0
          · have dL : decide ((0 : Int) < (j : Int)) = false := ltF (by omega)
            have dL2 : decide (0 < j) = false := decide_eq_false (by omega)
            have dI : decide ((i9 : Int) < (len1 : Int)) = true := ltT (by omega)
            clear hn0
            have hc := crun_call h 0 1 (by omega) rfl rfl N.inv HT.out K (by omega)
            have HX : Hid (∀ (n : Nat) (d : Bool) (S' : Slb) (T' : HTbl) (H' : List Ent) (R' : List Rc) (w' : World), Ran S T H R K n d S' T' H' R' → Sep No w w' [stR b 100 4294967295 S' T', cpR cb b, rowAt 109 6 (.slice sw j cw) j (nwv (R.map (·.w))), rowAt 45 1 (.slice sl j cl) j (hds R)] → NbRel2 w b cb (.slice sl j cl) (.slice sw j cw) j w') := fun n d S' T' H' R' w' hr h' => by
              obtain ⟨N', e1, e2⟩ := N.ran hr
              exact ⟨S', T', H', R', N', by rw [e1, e2]; exact h'⟩
            clear N h
            go_wp2_with fail
            refine hc.mono ?_
            rintro e w7 ⟨n7, d7, S', T', H', R', ⟨rfl, hr⟩, h7⟩
            have H7 : Hid (NbRel2 w b cb (.slice sl j cl) (.slice sw j cw) j w7) := HX.out n7 d7 S' T' H' R' w7 hr h7
            clear hc hr h7 HX
            go_wp2_with fail
            go_loopw [18] (fun iv wr => ∃ i8 : Nat, iv = .int .i64 i8 ∧ i8 ≤ j ∧ NbRel2 w b cb (.slice sl j cl) (.slice sw j cw) j wr) (fun iv _ => j - (RowKit.intOf iv).toNat)
            case atStart => exact ⟨0, rfl, Nat.zero_le _, H7.out⟩
            case round =>
              obtain ⟨i8, rfl, hi8, S, T, H, R, N, h⟩ := hrel
              clear H7
              by_cases hlt3 : i8 < j
              · obtain ⟨r, hrk⟩ : ∃ r, R[i8]? = some r := ⟨_, List.getElem?_eq_getElem (by rw [N.len]; exact hlt3)⟩
                have hrm := List.mem_of_getElem? hrk
                obtain ⟨x0, x1, x2, x3, x4, x5, hw⟩ := six_of (N.six r hrm)
                obtain ⟨g9, eg, cl0, _⟩ := h.item 3 rfl (o := i8) (x := .int .u64 r.h) (hds_atN hrk)
                cases eg
                have hrg := N.inv.rng hrk
                have hg := nget_ok h 0 rfl N.inv (hh := r.h) ⟨hrg.1, hrg.2.1⟩ ⟨hrk, N.live r hrm, rfl⟩ hw
                have hwk : (R.map (·.w))[i8]? = some [x0, x1, x2, x3, x4, x5] := by rw [List.getElem?_map, hrk, ← hw]; rfl
                obtain ⟨g8, eg8, ⟨q0, q1, q2, q3, q4, q5⟩, _⟩ := nb_cells h 2 rfl hwk
                cases eg8
                have hij : (i8 : Int) < (j : Int) := by omega
                have HN : Hid (∀ w', Mod No wr w' → NbRel2 w b cb (.slice (some ⟨g9, 0, none⟩) j cl) (.slice (some ⟨g8, 0, none⟩) j cw) j w') := fun w' hm => ⟨S, T, H, R, N, h.more hm⟩
                clear N h hrk hrm hw hrg hwk
                go_wp2_with fail
                refine hg.mono ?_
                rintro e w8 ⟨rfl, hm⟩
                have hB := (Sep.nil w8).pushCells #[.int .u64 x0, .int .u64 x1, .int .u64 x2, .int .u64 x3, .int .u64 x4, .int .u64 x5] 109
                obtain ⟨p0, p1, p2, p3, p4, p5⟩ := hB.six 0 rfl
                have hm' := hm.trans' hB.mod
                have q0 := hm'.cell q0 (fun x => x)
                have q1 := hm'.cell q1 (fun x => x)
                have q2 := hm'.cell q2 (fun x => x)
                have q3 := hm'.cell q3 (fun x => x)
                have q4 := hm'.cell q4 (fun x => x)
                have q5 := hm'.cell q5 (fun x => x)
                have HM8 := Lib.hid hm'
                clear hg hm hB hm' cl0
                go_wp2_with fail
                go_big_quiet (fail)
                have HN2 := Lib.hid (HN.out _ (HM8.out.trans' (Mod.of_drewN (n := nq) rfl)))
                clear HN HM8
                go_wp2_with fail
                go_roundw
                case rel => exact ⟨i8 + 1, by go_num, by omega, HN2.out⟩
                case measure => simp [RowKit.intOf]; omega
              · obtain rfl : i8 = j := by omega
                have hw := stwords_call h 0 rfl
                have hpg := N.pg
                obtain ⟨pn, hpn⟩ : ∃ x, S.pg.length = x := ⟨_, rfl⟩
                rw [hpn] at hw hpg
                obtain ⟨q6, hq6⟩ : ∃ x, i8 / 6 = x := ⟨_, rfl⟩
                have e1 : (i8 : Int).tdiv 6 = (q6 : Int) := by rw [Int.tdiv_eq_ediv_of_nonneg (by omega)]; omega
                have e2 : IntKind.i64.wrap (q6 : Int) = (q6 : Int) := by rw [IntKind.wrap_i64]; omega
                have e3 : IntKind.i64.wrap (1 + (q6 : Int)) = 1 + (q6 : Int) := by rw [IntKind.wrap_i64]; omega
                obtain ⟨y9, hy9⟩ : ∃ y, 64 * (1 + (q6 : Int)) = y := ⟨_, rfl⟩
                obtain ⟨x9, hx9⟩ : ∃ x, 64 * (pn : Int) = x := ⟨_, rfl⟩
                have e4 : IntKind.i64.wrap y9 = y9 := by rw [IntKind.wrap_i64]; omega
                have dW : decide (x9 ≤ y9) = true := leT (by omega)
                rw [hx9] at hw
                clear N h hlt3 hpn hpg hq6 hx9
                go_wp2_with fail
                refine hw.mono ?_
                rintro e w9 ⟨rfl, h9⟩
                have HM := Lib.hid h9.mod
                clear hw h9
                go_wp2_with fail
                have ha := awake10_call w9 (HT.out.mod HM.out)
                go_wp2_with fail
                refine ha.mono ?_
                rintro e w9 ⟨rfl, hm9⟩
                have H9 := Lib.hid (HM.out.trans' hm9)
                clear ha hm9
                go_wp2
                go_ret
                exact ⟨rfl, H9.out.below _ (Nat.le_refl _) (fun _ _ x => x)⟩
          · obtain ⟨bb, off, rfl, hb, hc⟩ := HR1.out.cells (by omega)
            have hzj : z1[i9]? = some (z1[i9]'(by rw [HR1.out.count]; exact hlt)) := List.getElem?_eq_getElem _
            obtain ⟨hrl, hro⟩ := HR1.out.ok _ (List.mem_of_getElem? hzj)
            generalize z1[i9]'(by rw [HR1.out.count]; exact hlt) = rz at *
            match rz, hrl with
            | [dd, nn, kk, x0, x1, x2, x3, x4, x5], _ =>
            have b1 := hc i9 _ hzj 1 _ nn rfl rfl
            have b3 := hc i9 _ hzj 3 _ x0 rfl rfl
            have b4 := hc i9 _ hzj 4 _ x1 rfl rfl
            have b5 := hc i9 _ hzj 5 _ x2 rfl rfl
            have b6 := hc i9 _ hzj 6 _ x3 rfl rfl
            have b7 := hc i9 _ hzj 7 _ x4 rfl rfl
            have b8 := hc i9 _ hzj 8 _ x5 rfl rfl
            have hnn := bounds_i64 (hro 1 _ nn rfl rfl)
            have hx : ∀ x ∈ [x0, x1, x2, x3, x4, x5], 0 ≤ x ∧ x < 18446744073709551616 := fun x hx => by
              simp only [List.mem_cons, List.not_mem_nil, or_false] at hx
              rcases hx with rfl | rfl | rfl | rfl | rfl | rfl
              · exact bu64 (hro 3 _ _ rfl rfl)
              · exact bu64 (hro 4 _ _ rfl rfl)
              · exact bu64 (hro 5 _ _ rfl rfl)
              · exact bu64 (hro 6 _ _ rfl rfl)
              · exact bu64 (hro 7 _ _ rfl rfl)
              · exact bu64 (hro 8 _ _ rfl rfl)
            simp only [List.length_cons, List.length_nil, Nat.add_zero, Nat.zero_add, Nat.reduceAdd, fv] at b1 b3 b4 b5 b6 b7 b8
            have HBX := Lib.hid (And.intro b3 (And.intro b4 (And.intro b5 (And.intro b6 (And.intro b7 b8)))))
            have c1 := h.old b1
            have c3 := h.old b3
            have c4 := h.old b4
            have c5 := h.old b5
            have c6 := h.old b6
            have c7 := h.old b7
            have c8 := h.old b8
            clear b1 b3 b4 b5 b6 b7 b8 hc hzj hro hb
            have hj60 : j ≤ 60 := by omega
            have hm2 : -(j : Int) < nn.tmod (j : Int) ∧ nn.tmod (j : Int) < (j : Int) := by
              have h1 := Int.tmod_lt_of_pos nn (show (0 : Int) < (j : Int) by omega)
              have h2 := Int.tmod_lt_of_pos (-nn) (show (0 : Int) < (j : Int) by omega)
              rw [Int.neg_tmod] at h2
              omega
            have hz : ((j : Int) == 0) = false := beqF (by omega)
            have dL : decide ((0 : Int) < (j : Int)) = true := ltT (by omega)
            have hj0 : 0 < j := by omega
            have dI : decide ((i9 : Int) < (len1 : Int)) = true := ltT (by omega)
            obtain ⟨mm, hmm⟩ : ∃ y, nn.tmod (j : Int) = y := ⟨_, rfl⟩
            rw [hmm] at hm2
            have e1 : IntKind.i64.wrap mm = mm := by rw [IntKind.wrap_i64]; omega
            have e2 : IntKind.i64.wrap (mm + (j : Int)) = mm + (j : Int) := by rw [IntKind.wrap_i64]; omega
            have h3 : 0 ≤ (mm + (j : Int)).tmod (j : Int) ∧ (mm + (j : Int)).tmod (j : Int) < (j : Int) := by
              rw [Int.tmod_eq_emod_of_nonneg (by omega)]
              exact ⟨Int.emod_nonneg _ (by omega), Int.emod_lt_of_pos _ (by omega)⟩
            obtain ⟨y, hy⟩ := Int.eq_ofNat_of_zero_le h3.1
            have e3 : IntKind.i64.wrap (y : Int) = (y : Int) := by rw [IntKind.wrap_i64]; omega
            rw [hy] at h3
            have hyn : y < j := by omega
            have hyi : (y : Int) < (j : Int) := by omega
            have hii : (i9 : Int) < (len1 : Int) := by omega
            obtain ⟨r, hrk⟩ : ∃ r, R[y]? = some r := ⟨_, List.getElem?_eq_getElem (by rw [N.len]; exact hyn)⟩
            have hrm := List.mem_of_getElem? hrk
            obtain ⟨gl, rfl, cl0, _⟩ := h.item 3 rfl (o := y) (x := .int .u64 r.h) (hds_atN hrk)
            obtain ⟨v0, v1, v2, v3, v4, v5, hrw⟩ := six_of (N.six r hrm)
            have hwk : (R.map (·.w))[y]? = some [v0, v1, v2, v3, v4, v5] := by rw [List.getElem?_map, hrk, ← hrw]; rfl
            obtain ⟨g8, rfl, _, _⟩ := nb_cells h 2 rfl hwk
            have hrg := N.inv.rng hrk
            have hp := nput_ok h.drew 0 rfl N.inv (hh := r.h) ⟨hrg.1, hrg.2.1⟩ ⟨hrk, N.live r hrm, rfl⟩ (N.six r hrm) hx
            have HN := Lib.hid (And.intro N (And.intro hrk hwk))
            have hpar : ∃ z, (i9 : Int).tmod 2 = z ∧ IntKind.i64.wrap z = z := ⟨_, rfl, by rw [IntKind.wrap_i64, Int.tmod_eq_emod_of_nonneg (by omega)]; omega⟩
            obtain ⟨pz, hpz, hpw⟩ := hpar
            clear N h hrk hrm hwk hrg hx hm2 h3 hn0 hlt hrw
            go_wp2_with fail
            refine wp_region_held_drew (S := fun w' => w'.cell? ⟨gl, y, none⟩ = some (.int .u64 r.h) ∧ w'.cell? ⟨bb, off + i9 * 9 + 3, none⟩ = some (.int .u64 x0) ∧ w'.cell? ⟨bb, off + i9 * 9 + 4, none⟩ = some (.int .u64 x1) ∧ w'.cell? ⟨bb, off + i9 * 9 + 5, none⟩ = some (.int .u64 x2) ∧ w'.cell? ⟨bb, off + i9 * 9 + 6, none⟩ = some (.int .u64 x3) ∧ w'.cell? ⟨bb, off + i9 * 9 + 7, none⟩ = some (.int .u64 x4) ∧ w'.cell? ⟨bb, off + i9 * 9 + 8, none⟩ = some (.int .u64 x5)) (by kernel_rfl) ⟨cl0, c3, c4, c5, c6, c7, c8⟩ (fun hHeld => ?_)
            clear cl0 c3 c4 c5 c6 c7 c8 c1
            refine wpAnyH_takeD (i := 0) (v := ?_) (some 106) rfl (by rfl) (by kernel_rfl) (by kernel_rfl) (by kernel_rfl) (fun _ _ _ h => h) (Or.inl ⟨by rfl, ?_⟩) (by assumption) ?_
            rotate_left
            · intro w hSw
              try dsimp only at hSw
              go_simp
              try with_reducible rfl
            simp only [Act.put, List.setIfInBounds_toArray, List.set_cons_zero, List.set_cons_succ]
            refine wpAnyH_takeD (i := 1) (v := ?_) (some 107) rfl (by rfl) (by kernel_rfl) (by kernel_rfl) (by kernel_rfl) (fun _ _ _ h => h) (Or.inl ⟨by rfl, ?_⟩) (by assumption) ?_
            rotate_left
            · intro w hSw
              try dsimp only at hSw
              go_simp
              try with_reducible rfl
            simp only [Act.put, List.setIfInBounds_toArray, List.set_cons_zero, List.set_cons_succ]
            refine wpAnyH_takeD (i := 2) (v := ?_) (some 108) rfl (by rfl) (by kernel_rfl) (by kernel_rfl) (by kernel_rfl) (fun _ _ _ h => h) (Or.inl ⟨by rfl, ?_⟩) (by assumption) ?_
            rotate_left
            · intro w hSw
              try dsimp only at hSw
              go_simp
              try with_reducible rfl
            simp only [Act.put, List.setIfInBounds_toArray, List.set_cons_zero, List.set_cons_succ]
            refine wpAnyH_takeD (i := 3) (v := ?_) (some 109) rfl (by rfl) (by kernel_rfl) (by kernel_rfl) (by kernel_rfl) (fun _ _ _ h => h) (Or.inl ⟨by rfl, ?_⟩) (by assumption) ?_
            rotate_left
            · intro w hSw
              try dsimp only at hSw
              go_simp
              try with_reducible rfl
            simp only [Act.put, List.setIfInBounds_toArray, List.set_cons_zero, List.set_cons_succ]
            refine wpAnyH_takeD (i := 4) (v := ?_) (some 110) rfl (by rfl) (by kernel_rfl) (by kernel_rfl) (by kernel_rfl) (fun _ _ _ h => h) (Or.inl ⟨by rfl, ?_⟩) (by assumption) ?_
            rotate_left
            · intro w hSw
              try dsimp only at hSw
              go_simp
              try with_reducible rfl
            simp only [Act.put, List.setIfInBounds_toArray, List.set_cons_zero, List.set_cons_succ]
            refine wpAnyH_takeD (i := 5) (v := ?_) (some 111) rfl (by rfl) (by kernel_rfl) (by kernel_rfl) (by kernel_rfl) (fun _ _ _ h => h) (Or.inl ⟨by rfl, ?_⟩) (by assumption) ?_
            rotate_left
            · intro w hSw
              try dsimp only at hSw
              go_simp
              try with_reducible rfl
            simp only [Act.put, List.setIfInBounds_toArray, List.set_cons_zero, List.set_cons_succ]
            refine wpAnyH_takeD (i := 6) (v := ?_) (some 112) rfl (by rfl) (by kernel_rfl) (by kernel_rfl) (by kernel_rfl) (fun _ _ _ h => h) (Or.inl ⟨by rfl, ?_⟩) (by assumption) ?_
            rotate_left
            · intro w hSw
              try dsimp only at hSw
              go_simp
              try with_reducible rfl
            simp only [Act.put, List.setIfInBounds_toArray, List.set_cons_zero, List.set_cons_succ]
            refine wpAnyH_takeD (i := 7) (v := ?_) (some 113) rfl (by rfl) (by kernel_rfl) (by kernel_rfl) (by kernel_rfl) (fun _ _ _ h => h) (Or.inl ⟨by rfl, ?_⟩) (by assumption) ?_
            rotate_left
            · intro w hSw
              try dsimp only at hSw
              go_simp
              try with_reducible rfl
            simp only [Act.put, List.setIfInBounds_toArray, List.set_cons_zero, List.set_cons_succ]
            refine wpAnyH_takeD (i := 8) (v := ?_) (some 114) rfl (by rfl) (by kernel_rfl) (by kernel_rfl) (by kernel_rfl) (fun _ _ _ h => h) (Or.inl ⟨by rfl, ?_⟩) (by assumption) ?_
            rotate_left
            · intro w hSw
              try dsimp only at hSw
              go_simp
              try with_reducible rfl
            simp only [Act.put, List.setIfInBounds_toArray, List.set_cons_zero, List.set_cons_succ]
            refine wpAnyH_takeD (i := 9) (v := ?_) (some 115) rfl (by rfl) (by kernel_rfl) (by kernel_rfl) (by kernel_rfl) (fun _ _ _ h => h) (Or.inl ⟨by rfl, ?_⟩) (by assumption) ?_
            rotate_left
            · intro w hSw
              try dsimp only at hSw
              go_simp
              try with_reducible rfl
            simp only [Act.put, List.setIfInBounds_toArray, List.set_cons_zero, List.set_cons_succ]
            refine wpAnyH_ready (rs := [10]) (by kernel_rfl) (by simp) ?_
            refine AllReadyH.cons rfl (fun K hK => ?_) AllReadyH.nil
            go_simp
            refine (hp).mono ?_
            rintro e w5 ⟨S2, ⟨rfl, O⟩, h5⟩
            have h5 : Sep No w w5 [stR b 100 4294967295 S2 T, cpR cb b, rowAt 109 6 (.slice (some ⟨g8, 0, none⟩) j cw) j (nwv (R.map (·.w))), rowAt 45 1 (.slice (some ⟨gl, 0, none⟩) j cl) j (hds R)] := h5
            obtain ⟨g7, eg7, cl1, _⟩ := h5.item 3 rfl (o := y) (x := .int .u64 r.h) (hds_atN HN.out.2.1)
            cases eg7
            have c3 := h5.old HBX.out.1
            have c4 := h5.old HBX.out.2.1
            have c5 := h5.old HBX.out.2.2.1
            have c6 := h5.old HBX.out.2.2.2.1
            have c7 := h5.old HBX.out.2.2.2.2.1
            have c8 := h5.old HBX.out.2.2.2.2.2
            have HX := And.intro cl1 (And.intro c3 (And.intro c4 (And.intro c5 (And.intro c6 (And.intro c7 c8)))))
            obtain ⟨g6, eg6, ⟨q0, q1, q2, q3, q4, q5⟩, fz⟩ := nb_cells h5 2 rfl HN.out.2.2
            cases eg6
            have f0 := fz (y * 6)
            have f1 := fz (y * 6 + 1)
            have f2 := fz (y * 6 + 2)
            have f3 := fz (y * 6 + 3)
            have f4 := fz (y * 6 + 4)
            have f5 := fz (y * 6 + 5)
            obtain ⟨N6, e6w, e6h⟩ := HN.out.1.put HN.out.2.1 (ws := [x0, x1, x2, x3, x4, x5]) rfl O
            have h6 := (((((h5.setItem 2 rfl (y * 6) (.int .u64 x0)).setItem 2 rfl (y * 6 + 1) (.int .u64 x1)).setItem 2 rfl (y * 6 + 2) (.int .u64 x2)).setItem 2 rfl (y * 6 + 3) (.int .u64 x3)).setItem 2 rfl (y * 6 + 4) (.int .u64 x4)).setItem 2 rfl (y * 6 + 5) (.int .u64 x5)
            rw [nwv_set (by rw [List.length_map, HN.out.1.len]; exact hyn), ← e6w, ← e6h] at h6
            have H6 := Lib.hid (And.intro N6 h6)
            clear hp O h5 fz N6 h6 cl1 HBX e6w e6h HN
            refine hK.out _ _ HX (fun _ => ?_)
            clear hK K hHeld
            have hHeld := HX
            clear HX
            try simp only [Act.put, List.setIfInBounds_toArray, List.set_cons_zero, List.set_cons_succ]
            refine wpAnyH_takeD (i := 11) (v := ?_) (some 117) rfl (by rfl) (by kernel_rfl) (by kernel_rfl) (by kernel_rfl) (fun _ _ _ h => h) (Or.inl ⟨by rfl, ?_⟩) (by assumption) ?_
            rotate_left
            · intro w hSw
              try dsimp only at hSw
              go_simp
              try with_reducible rfl
            simp only [Act.put, List.setIfInBounds_toArray, List.set_cons_zero, List.set_cons_succ]
            refine wpAnyH_done (by kernel_rfl) ?_ _
            clear hHeld
            by_cases hp0 : pz = 0
            · subst hp0
              have hc := crun_call H6.out.2 0 1 (by omega) rfl rfl H6.out.1.inv HT.out 1 (by omega)
              go_wp2_with fail
              refine hc.mono ?_
              rintro e w7 ⟨n7, d7, S', T', H', R', ⟨rfl, hr⟩, h7⟩
              obtain ⟨N', e1', e2'⟩ := H6.out.1.ran hr
              have H7 : Hid (NbRel2 w b cb (.slice (some ⟨gl, 0, none⟩) j cl) (.slice (some ⟨g8, 0, none⟩) j cw) j w7) := ⟨S', T', H', R', N', by rw [e1', e2']; exact h7⟩
              clear hc hr h7 N' e1' e2' H6
              go_wp2_with fail
              go_roundw
              case rel => exact ⟨i9 + 1, by go_num, by omega, H7.out⟩
              case measure => simp [RowKit.intOf]; omega
            · have hpb : (pz == 0) = false := beqF hp0
              clear hp0
              go_wp2_with fail
              go_roundw
              case rel => exact ⟨i9 + 1, by go_num, by omega, _, _, _, _, H6.out.1, H6.out.2⟩
              case measure => simp [RowKit.intOf]; omega
        · have dI : decide ((i9 : Int) < (len1 : Int)) = false := ltF (by omega)
          have hc := crun_call h 0 1 (by omega) rfl rfl N.inv HT.out K (by omega)
          have HX : Hid (∀ (n : Nat) (d : Bool) (S' : Slb) (T' : HTbl) (H' : List Ent) (R' : List Rc) (w' : World), Ran S T H R K n d S' T' H' R' → Sep No w w' [stR b 100 4294967295 S' T', cpR cb b, rowAt 109 6 (.slice sw j cw) j (nwv (R.map (·.w))), rowAt 45 1 (.slice sl j cl) j (hds R)] → NbRel2 w b cb (.slice sl j cl) (.slice sw j cw) j w') := fun n d S' T' H' R' w' hr h' => by
            obtain ⟨N', e1, e2⟩ := N.ran hr
            exact ⟨S', T', H', R', N', by rw [e1, e2]; exact h'⟩
          clear N h
          go_wp2_with fail
          refine hc.mono ?_
          rintro e w7 ⟨n7, d7, S', T', H', R', ⟨rfl, hr⟩, h7⟩
          have H7 : Hid (NbRel2 w b cb (.slice sl j cl) (.slice sw j cw) j w7) := HX.out n7 d7 S' T' H' R' w7 hr h7
          clear hc hr h7 HX
          go_wp2_with fail
          go_loopw [18] (fun iv wr => ∃ i8 : Nat, iv = .int .i64 i8 ∧ i8 ≤ j ∧ NbRel2 w b cb (.slice sl j cl) (.slice sw j cw) j wr) (fun iv _ => j - (RowKit.intOf iv).toNat)
          case atStart => exact ⟨0, rfl, Nat.zero_le _, H7.out⟩
          case round =>
            obtain ⟨i8, rfl, hi8, S, T, H, R, N, h⟩ := hrel
            clear H7
            by_cases hlt3 : i8 < j
            · obtain ⟨r, hrk⟩ : ∃ r, R[i8]? = some r := ⟨_, List.getElem?_eq_getElem (by rw [N.len]; exact hlt3)⟩
              have hrm := List.mem_of_getElem? hrk
              obtain ⟨x0, x1, x2, x3, x4, x5, hw⟩ := six_of (N.six r hrm)
              obtain ⟨g9, eg, cl0, _⟩ := h.item 3 rfl (o := i8) (x := .int .u64 r.h) (hds_atN hrk)
              cases eg
              have hrg := N.inv.rng hrk
              have hg := nget_ok h 0 rfl N.inv (hh := r.h) ⟨hrg.1, hrg.2.1⟩ ⟨hrk, N.live r hrm, rfl⟩ hw
              have hwk : (R.map (·.w))[i8]? = some [x0, x1, x2, x3, x4, x5] := by rw [List.getElem?_map, hrk, ← hw]; rfl
              obtain ⟨g8, eg8, ⟨q0, q1, q2, q3, q4, q5⟩, _⟩ := nb_cells h 2 rfl hwk
              cases eg8
              have hij : (i8 : Int) < (j : Int) := by omega
              have HN : Hid (∀ w', Mod No wr w' → NbRel2 w b cb (.slice (some ⟨g9, 0, none⟩) j cl) (.slice (some ⟨g8, 0, none⟩) j cw) j w') := fun w' hm => ⟨S, T, H, R, N, h.more hm⟩
              clear N h hrk hrm hw hrg hwk
              go_wp2_with fail
              refine hg.mono ?_
              rintro e w8 ⟨rfl, hm⟩
              have hB := (Sep.nil w8).pushCells #[.int .u64 x0, .int .u64 x1, .int .u64 x2, .int .u64 x3, .int .u64 x4, .int .u64 x5] 109
              obtain ⟨p0, p1, p2, p3, p4, p5⟩ := hB.six 0 rfl
              have hm' := hm.trans' hB.mod
              have q0 := hm'.cell q0 (fun x => x)
              have q1 := hm'.cell q1 (fun x => x)
              have q2 := hm'.cell q2 (fun x => x)
              have q3 := hm'.cell q3 (fun x => x)
              have q4 := hm'.cell q4 (fun x => x)
              have q5 := hm'.cell q5 (fun x => x)
              have HM8 := Lib.hid hm'
              clear hg hm hB hm' cl0
              go_wp2_with fail
              go_big_quiet (fail)
              have HN2 := Lib.hid (HN.out _ (HM8.out.trans' (Mod.of_drewN (n := nq) rfl)))
              clear HN HM8
              go_wp2_with fail
              go_roundw
              case rel => exact ⟨i8 + 1, by go_num, by omega, HN2.out⟩
              case measure => simp [RowKit.intOf]; omega
            · obtain rfl : i8 = j := by omega
              have hw := stwords_call h 0 rfl
              have hpg := N.pg
              obtain ⟨pn, hpn⟩ : ∃ x, S.pg.length = x := ⟨_, rfl⟩
              rw [hpn] at hw hpg
              obtain ⟨q6, hq6⟩ : ∃ x, i8 / 6 = x := ⟨_, rfl⟩
              have e1 : (i8 : Int).tdiv 6 = (q6 : Int) := by rw [Int.tdiv_eq_ediv_of_nonneg (by omega)]; omega
              have e2 : IntKind.i64.wrap (q6 : Int) = (q6 : Int) := by rw [IntKind.wrap_i64]; omega
              have e3 : IntKind.i64.wrap (1 + (q6 : Int)) = 1 + (q6 : Int) := by rw [IntKind.wrap_i64]; omega
              obtain ⟨y9, hy9⟩ : ∃ y, 64 * (1 + (q6 : Int)) = y := ⟨_, rfl⟩
              obtain ⟨x9, hx9⟩ : ∃ x, 64 * (pn : Int) = x := ⟨_, rfl⟩
              have e4 : IntKind.i64.wrap y9 = y9 := by rw [IntKind.wrap_i64]; omega
              have dW : decide (x9 ≤ y9) = true := leT (by omega)
              rw [hx9] at hw
              clear N h hlt3 hpn hpg hq6 hx9
              go_wp2_with fail
              refine hw.mono ?_
              rintro e w9 ⟨rfl, h9⟩
              have HM := Lib.hid h9.mod
              clear hw h9
              go_wp2_with fail
              have ha := awake10_call w9 (HT.out.mod HM.out)
              go_wp2_with fail
              refine ha.mono ?_
              rintro e w9 ⟨rfl, hm9⟩
              have H9 := Lib.hid (HM.out.trans' hm9)
              clear ha hm9
              go_wp2
              go_ret
              exact ⟨rfl, H9.out.below _ (Nat.le_refl _) (fun _ _ x => x)⟩

theorem nodeBack_walk (s0 : Option Addr) (len0 cap0 : Nat) (z0 : List (List Int)) (s1 : Option Addr) (len1 cap1 : Nat) (z1 : List (List Int)) (K : Int) (w : World) (R0 : Recs w s0 len0 K6 z0) (hnc : s0 = none → cap0 = 0) (R1 : Recs w s1 len1 K9 z1) (_ : s1 = none → cap1 = 0) (wk : (Lit.int .i64 K).wf = true) (hT : Tab64 w) :
    Calls Tryz.prog 11 #[.slice s0 len0 cap0, .slice s1 len1 cap1, .int .i64 K] w fun e w' => e = .returned (.bool true) ∧ Below w.heap.size w w' := by
  by_cases hall : len0 ≤ 60 ∧ len1 ≤ 60 ∧ 0 ≤ K ∧ K ≤ 200
  · obtain ⟨k, rfl⟩ := Int.eq_ofNat_of_zero_le hall.2.2.1
    exact nback_in s0 len0 cap0 z0 s1 len1 cap1 z1 k w R0 hnc hall.1 R1 hall.2.1 (by omega) hT
  · have HM := Lib.hid (Mod.refl No w)
    have HT := Lib.hid hT
    clear hT R0 R1 wk hnc
    have hd : decide ((60 : Int) < (len0 : Int)) = true ∨ decide ((60 : Int) < (len0 : Int)) = false ∧ decide ((60 : Int) < (len1 : Int)) = true ∨ decide ((60 : Int) < (len0 : Int)) = false ∧ decide ((60 : Int) < (len1 : Int)) = false ∧ decide (K < 0) = true ∨ decide ((60 : Int) < (len0 : Int)) = false ∧ decide ((60 : Int) < (len1 : Int)) = false ∧ decide (K < 0) = false ∧ decide (200 < K) = true := by
      by_cases h1 : (60 : Int) < (len0 : Int)
      · exact .inl (ltT h1)
      · by_cases h2 : (60 : Int) < (len1 : Int)
        · exact .inr (.inl ⟨ltF (by omega), ltT h2⟩)
        · by_cases h3 : K < 0
          · exact .inr (.inr (.inl ⟨ltF (by omega), ltF (by omega), ltT h3⟩))
          · exact .inr (.inr (.inr ⟨ltF (by omega), ltF (by omega), ltF (by omega), ltT (by omega)⟩))
    clear hall
    rcases hd with d1 | ⟨d1, d2⟩ | ⟨d1, d2, d3⟩ | ⟨d1, d2, d3, d4⟩
    all_goals
      go_enter Tryz.func11, Tryz.ntmps11
      go_wp2_with fail
      have ha := awake10_call w (HT.out.mod HM.out)
      go_wp2_with fail
      refine ha.mono ?_
      rintro e w9 ⟨rfl, hm9⟩
      have H9 := Lib.hid (HM.out.trans' hm9)
      clear ha hm9
      go_wp2
      go_ret
      exact ⟨rfl, H9.out.below _ (Nat.le_refl _) (fun _ _ x => x)⟩

open Go.ChangeShapes Go.WideShapes Go.Deep in
/-- A slice that lies nowhere has no room. -/
theorem open_nocap {HH : Type} {enc : TypeId × Value → HH} {P : Program} {w : World} {base : Nat} {spare : Nat → Bool} {held : Bool} {t e : TypeId} {a : Option Addr} {len cap : Nat} {d : DataW HH} {p : List MemPlace} (ht : P.underlying t = some (.slice e))
    (h : DataW.Trod enc P w base spare held t (.slice a len cap) d p) : a = none → cap = 0 := fun ha => by
  obtain ⟨fuel, hf⟩ := h
  rcases open_slice ht hf with ⟨hcs, _⟩ | ⟨x, l, c, m, n, D, Pl, hcs, _⟩
  · simp [Value.cells] at hcs
    exact hcs.2.2
  · simp [Value.cells] at hcs
    rw [ha] at hcs
    simp at hcs
end Go.Proofs.YtfmcddomciicdaaGreatDoor
