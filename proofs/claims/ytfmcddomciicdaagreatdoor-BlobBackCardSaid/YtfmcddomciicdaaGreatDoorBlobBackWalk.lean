/- BlobBack, walked. Condition: the table of math/bits holds what its initialiser lays. -/
import Derived.Test.YtfmcddomciicdaaGreatDoorBlobBackSpec
import Derived.Test.YtfmcddomciicdaaGreatDoorCompactB
import Derived.Test.YtfmcddomciicdaaGreatDoorAwake09
import Derived.Test.YtfmcddomciicdaaGreatDoorArgsNode
import Derived.Test.YtfmcddomciicdaaGreatDoorMakeSep
import Derived.Deep.RegionHeld3
import Derived.Deep.DeepCutAuto
set_option linter.unusedVariables false
set_option linter.unusedSimpArgs false
set_option maxRecDepth 100000
namespace Go.Proofs.YtfmcddomciicdaaGreatDoor
open Go Go.RowKit

abbrev hvV (hv : List Int) : List Value := hv.map (Value.int .u64)
def BbRel1 (w : World) (b cb : Nat) (ss : List ByteArray) (lv : Value) (n : Nat) (wr : World) : Prop := ∃ (S : Slb) (T : HTbl) (H : List Ent) (R : List Rc) (hv : List Int), StInv S T H R ∧ S.quota = 262144 ∧ T.AllOpen ∧ T.most = 100 ∧ R.length ≤ n ∧ hv.length = n ∧ (∀ r ∈ R, 0 ≤ r.a ∧ r.w.length ≤ 126) ∧ BB ss R hv (fun _ => false) ∧
  Sep No w wr [stR b 100 4294967295 S T, cpR cb b, rowAt 45 1 lv n (hvV hv)]
def BbRel2 (w : World) (b cb : Nat) (ss : List ByteArray) (lv gv : Value) (n : Nat) (wr : World) : Prop := ∃ (S : Slb) (T : HTbl) (H : List Ent) (R : List Rc) (hv : List Int) (gs : List Bool), StInv S T H R ∧ hv.length = n ∧ gs.length = n ∧ BB ss R hv (fun i => gs.getD i false) ∧
  Sep No w wr [stR b 100 4294967295 S T, cpR cb b, rowAt 45 1 lv n (hvV hv), rowAt 4 1 gv n (gs.map Value.bool)]

theorem getD_set {gs : List Bool} {k : Nat} (hk : k < gs.length) : (fun i => (gs.set k true).getD i false) = (fun i => if i = k then true else gs.getD i false) := by
  funext i
  rw [List.getD_eq_getElem?_getD, List.getElem?_set, List.getD_eq_getElem?_getD]
  by_cases e : k = i
  · subst e
    rw [if_pos rfl, if_pos hk, if_pos rfl]
    rfl
  · rw [if_neg e, if_neg (fun h => e h.symm)]

theorem infoHdlBB : (Tryz.prog.info? 45).map (fun i => (i.zero, i.size, i.bytes)) = some (some (.int .u64 0), 1, 8) := by kernel_rfl
theorem infoBoolBB : (Tryz.prog.info? 4).map (fun i => (i.zero, i.size, i.bytes)) = some (some (.bool false), 1, 1) := by kernel_rfl

section
variable {w wr : World} {b cb n : Nat} {ss : List ByteArray} {lv gv : Value} {S : Slb} {T : HTbl} {H : List Ent} {R : List Rc} {hv : List Int} {gs : List Bool}
/-- What Drop of one does. -/
theorem bb_drop (I : StInv S T H R) (hvl : hv.length = n) (hgl : gs.length = n) (B : BB ss R hv (fun i => gs.getD i false)) (h : Sep No w wr [stR b 100 4294967295 S T, cpR cb b, rowAt 45 1 lv n (hvV hv), rowAt 4 1 gv n (gs.map Value.bool)]) {k : Nat} {x : Int} {s : ByteArray} {gk : Bool} (hx : hv[k]? = some x) (hs : ss[k]? = some s) (hg : gs[k]? = some gk) :
    ∃ (er : Int) (S' : Slb) (T' : HTbl) (H' : List Ent) (R' : List Rc), (Calls Tryz.prog 61 #[.pointer (some ⟨b, 0, none⟩), .int .u64 x] wr fun e w' => e = .returned (.int .i64 er) ∧ Sep No w w' [stR b 100 4294967295 S' T', cpR cb b, rowAt 45 1 lv n (hvV hv), rowAt 4 1 gv n (gs.map Value.bool)]) ∧
      (er == 0) = (decide ((s.size : Int) ≤ 1000) && !gk) ∧ StInv S' T' H' R' ∧ BB ss R' hv (fun i => (gs.set k true).getD i false) := by
  have hkl : k < gs.length := (List.getElem?_eq_some_iff.1 hg).1
  have hgd : gs.getD k false = gk := by rw [List.getD_eq_getElem?_getD, hg]; rfl
  rw [getD_set hkl]
  obtain ⟨s', hs', ⟨h1, rfl⟩ | ⟨h1, h0, j, r, hj, hh, hw, ha⟩⟩ := B.each k x hx
  · rw [hs] at hs'
    cases hs'
    refine ⟨7, S, T, H, R, (bdrop_no h 0 rfl I (by omega) T.at_zero).mono fun e w' ⟨he, hw⟩ => ⟨he, hw ▸ h⟩, ?_, I, B.none hx⟩
    rw [show decide ((s.size : Int) ≤ 1000) = false from leF (by omega)]
    rfl
  · rw [hs] at hs'
    cases hs'
    have hrg := I.rng hj
    rw [hh] at hrg
    cases gk with
    | true =>
      have hna : ¬ 0 ≤ r.a := fun h => by have := ha.1 h; rw [hgd] at this; cases this
      have hst := I.gone hj (by omega)
      rw [hh] at hst
      refine ⟨7, S, T, H, R, (bdrop_no h 0 rfl I ⟨hrg.1, hrg.2.1⟩ hst).mono fun e w' ⟨he, hw⟩ => ⟨he, hw ▸ h⟩, ?_, I, B.again hgd⟩
      rw [Bool.and_comm]
      rfl
    | false =>
      have ha0 : 0 ≤ r.a := ha.2 hgd
      obtain ⟨S', T', H', D⟩ := I.dropOk hj ha0
      subst hh
      refine ⟨0, S', T', H', _, bdrop_ok h 0 rfl I ⟨hrg.1, hrg.2.1⟩ ⟨hj, ha0, rfl⟩ h1 hw D, ?_, D.inv, B.drop hx hj rfl h0⟩
      rw [show decide ((s.size : Int) ≤ 1000) = true from leT (by omega)]
      rfl
/-- What Get of one tells. -/
theorem bb_get (I : StInv S T H R) (B : BB ss R hv (fun i => gs.getD i false)) (h : Sep No w wr [stR b 100 4294967295 S T, cpR cb b, rowAt 45 1 lv n (hvV hv), rowAt 4 1 gv n (gs.map Value.bool)]) {k : Nat} {x : Int} {s : ByteArray} {gk : Bool} (hx : hv[k]? = some x) (hs : ss[k]? = some s) (hg : gs[k]? = some gk) :
    (decide ((1000 : Int) < (s.size : Int)) = false ∧ gk = false ∧ Calls Tryz.prog 59 #[.pointer (some ⟨b, 0, none⟩), .int .u64 x] wr fun e w' => e = .returned (.tuple #[.string s, .int .i64 0]) ∧ Mod No wr w') ∨
    ((decide ((1000 : Int) < (s.size : Int)) = true ∨ gk = true) ∧ Calls Tryz.prog 59 #[.pointer (some ⟨b, 0, none⟩), .int .u64 x] wr fun e w' => e = .returned (.tuple #[.string ⟨#[]⟩, .int .i64 7]) ∧ Mod No wr w') := by
  have hgd : gs.getD k false = gk := by rw [List.getD_eq_getElem?_getD, hg]; rfl
  have same : ∀ {e0 : Ending}, (Calls Tryz.prog 59 #[.pointer (some ⟨b, 0, none⟩), .int .u64 x] wr fun e w' => e = e0 ∧ wr = w') → Calls Tryz.prog 59 #[.pointer (some ⟨b, 0, none⟩), .int .u64 x] wr fun e w' => e = e0 ∧ Mod No wr w' := fun hc => hc.mono fun e w' ⟨he, hw⟩ => ⟨he, hw ▸ Mod.refl No _⟩
  obtain ⟨s', hs', ⟨h1, rfl⟩ | ⟨h1, h0, j, r, hj, hh, hw, ha⟩⟩ := B.each k x hx
  · rw [hs] at hs'
    cases hs'
    exact .inr ⟨.inl (ltT (by omega)), same (bget_no h 0 rfl I (by omega) T.at_zero)⟩
  · rw [hs] at hs'
    cases hs'
    have hrg := I.rng hj
    rw [hh] at hrg
    cases gk with
    | true =>
      have hna : ¬ 0 ≤ r.a := fun h => by have := ha.1 h; rw [hgd] at this; cases this
      have hst := I.gone hj (by omega)
      rw [hh] at hst
      exact .inr ⟨.inr rfl, same (bget_no h 0 rfl I ⟨hrg.1, hrg.2.1⟩ hst)⟩
    | false => exact .inl ⟨ltF (by omega), rfl, bget_ok h 0 rfl I ⟨hrg.1, hrg.2.1⟩ ⟨hj, ha.2 hgd, hh⟩ h1 hw⟩
end


set_option maxRecDepth 100000 in
set_option maxHeartbeats 8000000 in
theorem bback_in (s0 : Option Addr) (len0 cap0 : Nat) (ss : List ByteArray) (s1 : Option Addr) (len1 cap1 : Nat) (z1 : List (List Int)) (K : Nat) (w : World) (R0 : Strs w s0 len0 ss) (hl0 : len0 ≤ 30) (R1 : Recs w s1 len1 [some .i64] z1) (hl1 : len1 ≤ 30) (hK : K ≤ 100) (hT : Tab64 w) :
    Calls Tryz.prog 18 #[.slice s0 len0 cap0, .slice s1 len1 cap1, .int .i64 (K : Nat)] w fun e w' => e = .returned (.bool true) ∧ Below w.heap.size w w' := by
  have d1 : decide ((30 : Int) < (len0 : Int)) = false := ltF (by omega)
  have d2 : decide ((30 : Int) < (len1 : Int)) = false := ltF (by omega)
  have d3 : decide ((K : Int) < 0) = false := ltF (by omega)
  have d4 : decide ((100 : Int) < (K : Int)) = false := ltF (by omega)
  have HR0 := Lib.hid R0
  have HR1 := Lib.hid R1
  have HT := Lib.hid hT
  obtain ⟨i0, hi0, hz0, hz1, hz2⟩ := info_parts infoHdlBB
  have HI := Lib.hid (And.intro hi0 (And.intro hz0 (And.intro hz1 hz2)))
  obtain ⟨i1, hi1, hy0, hy1, hy2⟩ := info_parts infoBoolBB
  have HI1 := Lib.hid (And.intro hi1 (And.intro hy0 (And.intro hy1 hy2)))
  clear R0 R1 hT hi0 hz0 hz1 hz2 hi1 hy0 hy1 hy2
  go_enter Tryz.func18, Tryz.ntmps18
  go_wp2_with fail
  refine (stnew_call (Sep.nil w) 262144 100 4294967295 (by omega) (by omega) (by omega) (by omega) (by omega) (by omega)).mono ?_
  rintro e w1 ⟨b, rfl, h1⟩
  have I0 := StInv.start (q := 262144) (m := 100) (l := 4294967295) (by omega) (by omega) (by omega) (by omega) (by omega) (by omega)
  have hc := cnew_call h1 0 rfl I0
  have HI0 := Lib.hid I0
  clear h1 I0 d1 d2 d3 d4
  go_wp2_with fail
  refine hc.mono ?_
  rintro e w2 ⟨cb, rfl, h2⟩
  have hst : Hid (BbRel1 w b cb ss (.slice none 0 0) 0 w2) := ⟨_, _, [], [], [], HI0.out, rfl, HTbl.AllOpen.new, rfl, Nat.le_refl _, rfl, by simp, BB.nil ss _, h2.pushNil 45 1⟩
  clear hc h2 HI0
  go_wp2_with fail
  go_loopw [11, 12] (fun lv i wr => ∃ j : Nat, i = .int .i64 j ∧ j ≤ len0 ∧ BbRel1 w b cb ss lv j wr) (fun _ i _ => len0 - (RowKit.intOf i).toNat)
  case atStart => exact ⟨0, rfl, Nat.zero_le _, hst.out⟩
  case round =>
    obtain ⟨j, rfl, hj, S, T, H, R, hv, I, hq, hA, hm, hRl, hvl, hR, B, h⟩ := hrel
    clear hst
    obtain ⟨sl, cl, rfl⟩ := h.form 2 rfl
    by_cases hlt : j < len0
    · obtain ⟨bb, off, rfl, hb, hcs⟩ := HR0.out.cells (by omega)
      have hzj : ss[j]? = some (ss[j]'(by rw [HR0.out.count]; exact hlt)) := List.getElem?_eq_getElem _
      generalize ss[j]'(by rw [HR0.out.count]; exact hlt) = s at *
      have hso := HR0.out.ok s (List.mem_of_getElem? hzj)
      have c0 := h.old (hcs j s hzj)
      have HC0 := Lib.hid (hcs j s hzj)
      have hjl : j ≤ 30 := by omega
      by_cases hs : s.size ≤ 1000
      · have ds : decide ((s.size : Int) ≤ 1000) = true := leT (by omega)
        obtain ⟨L, hL⟩ : ∃ L, L = 1 + (s.size + 7) / 8 := ⟨_, rfl⟩
        have hL1 : 1 ≤ L ∧ L ≤ 126 := by omega
        have hla : ∀ r ∈ R, 0 ≤ r.a := fun r hr => (hR r hr).1
        obtain ⟨hdl, er, S', T', H', R', M⟩ := I.made (L : Int)
        obtain rfl := I.made_ok hA.noret (by omega) (by omega) (by rw [liveR_all hla, hm]; omega) (by
          have h1 := pgR_le (R := R) (k := 3) (by omega) (fun r hr => by have := (hR r hr).2; omega)
          have h2 := liveR_le R
          have h3 : Slb.pagesOf ((L : Int) + 2) ≤ 3 := by unfold Slb.pagesOf; split <;> omega
          rw [hq]
          omega) M
        have hput := bput_ok h 0 rfl I (HT.out.mod h.mod) hs hL M
        have hne := (M.good rfl).2.2.1
        have HP : Hid (∀ (S2 : Slb) (a2 : Nat), StInv S2 T' H' (R ++ [⟨hdl, (a2 : Int), Txt.tw s⟩]) → S2.quota = S'.quota → ∀ (gg capg : Nat) (w' : World), Sep No w w' [stR b 100 4294967295 S2 T', cpR cb b, rowAt 45 1 (.slice (some ⟨gg, 0, none⟩) (j + 1) capg) (j + 1) (hvV hv ++ [.int .u64 hdl])] → BbRel1 w b cb ss (.slice (some ⟨gg, 0, none⟩) (j + 1) capg) (j + 1) w') := fun S2 a2 I2 hq2 gg capg w' h' => by
          have hd0 : hdl ≠ 0 := fun e => by
            have h1 := I2.at_eq (j := R.length) (r := ⟨hdl, (a2 : Int), Txt.tw s⟩) (by rw [List.getElem?_append_right (Nat.le_refl _), Nat.sub_self]; rfl)
            rw [if_pos (Int.natCast_nonneg a2)] at h1
            dsimp only at h1
            rw [e, T'.at_zero] at h1
            simp at h1
          refine ⟨S2, T', H', _, hv ++ [hdl], I2, hq2.trans (M.quo.trans hq), M.allOpen hA, M.most.trans hm, by simp; omega, by simp [hvl], fun r hr => ?_, B.put (by rw [hvl]; exact hzj) hs hd0 hne rfl, by unfold hvV; rw [List.map_append]; exact h'⟩
          rcases List.mem_append.1 hr with h1 | h1
          · exact hR r h1
          · rw [List.mem_singleton.1 h1]
            exact ⟨Int.natCast_nonneg a2, by show (Txt.tw s).length ≤ 126; rw [Txt.tw_len]; omega⟩
        clear I hq hA hm hRl hvl hR B h hcs hzj hso hL hla M hne hs
        go_wp2_with fail
        refine hput.mono ?_
        rintro e w2 ⟨⟨S2, a2⟩, ⟨rfl, I2, -, hq2⟩, h2⟩
        have h2 : Sep No w w2 [stR b 100 4294967295 S2 T', cpR cb b, rowAt 45 1 (.slice sl j cl) j (hvV hv)] := h2
        have HY : Hid (∀ (gg capg : Nat) (w' : World), Sep No w w' [stR b 100 4294967295 S2 T', cpR cb b, rowAt 45 1 (.slice (some ⟨gg, 0, none⟩) (j + 1) capg) (j + 1) (hvV hv ++ [.int .u64 hdl])] → BbRel1 w b cb ss (.slice (some ⟨gg, 0, none⟩) (j + 1) capg) (j + 1) w') := HP.out S2 a2 I2 hq2
        have c0 := h2.old HC0.out
        clear hput I2 hq2 HP
        obtain ⟨hi0, hz0, hz1, hz2⟩ := HI.out
        go_wp2_with (at_builtin; refine wpList_append_sep1 h2 2 rfl (by rfl) _ _ 29 rfl Tryz.underlying29 hi0 hz0 hz1 hz2 rfl (by rfl) _ _ (by rfl) (by simp) (by rfl) _ (by unfold maxLen; omega) (by omega) ?_)
        intro gg capg w3 h3
        have H3 : Hid (BbRel1 w b cb ss (.slice (some ⟨gg, 0, none⟩) (j + 1) capg) (j + 1) w3) := HY.out gg capg w3 h3
        clear h2 h3 hi0 hz0 hz1 hz2 HY
        go_wp2
        go_roundw
        case rel => exact ⟨j + 1, by go_num, by omega, H3.out⟩
        case measure => simp [RowKit.intOf]; omega
      · have ds : decide ((s.size : Int) ≤ 1000) = false := leF (by omega)
        have hput := bput_long h 0 rfl I s (by omega)
        have HY : Hid (∀ (gg capg : Nat) (w' : World), Sep No w w' [stR b 100 4294967295 S T, cpR cb b, rowAt 45 1 (.slice (some ⟨gg, 0, none⟩) (j + 1) capg) (j + 1) (hvV hv ++ [.int .u64 0])] → BbRel1 w b cb ss (.slice (some ⟨gg, 0, none⟩) (j + 1) capg) (j + 1) w') := fun gg capg w' h' =>
          ⟨S, T, H, R, hv ++ [0], I, hq, hA, hm, by omega, by simp [hvl], hR, B.long (by rw [hvl]; exact hzj) (by omega), by unfold hvV; rw [List.map_append]; exact h'⟩
        have H2 := Lib.hid h
        clear I hq hA hm hRl hvl hR B h hcs hzj hso hs
        go_wp2_with fail
        refine hput.mono ?_
        rintro e w' ⟨rfl, rfl⟩
        have h2 := H2.out
        clear hput H2
        obtain ⟨hi0, hz0, hz1, hz2⟩ := HI.out
        go_wp2_with (at_builtin; refine wpList_append_sep1 h2 2 rfl (by rfl) _ _ 29 rfl Tryz.underlying29 hi0 hz0 hz1 hz2 rfl (by rfl) _ _ (by rfl) (by simp) (by rfl) _ (by unfold maxLen; omega) (by omega) ?_)
        intro gg capg w3 h3
        have H3 : Hid (BbRel1 w b cb ss (.slice (some ⟨gg, 0, none⟩) (j + 1) capg) (j + 1) w3) := HY.out gg capg w3 h3
        clear h2 h3 hi0 hz0 hz1 hz2 HY
        go_wp2
        go_roundw
        case rel => exact ⟨j + 1, by go_num, by omega, H3.out⟩
        case measure => simp [RowKit.intOf]; omega
    · obtain rfl : j = len0 := by omega
      obtain ⟨hi1, hy0, hy1, hy2⟩ := HI1.out
      have HX : Hid (∀ (g : Nat) (w' : World), Sep No w w' [stR b 100 4294967295 S T, cpR cb b, rowAt 45 1 (.slice sl j cl) j (hvV hv), rowAt 4 1 (.slice (some ⟨g, 0, none⟩) j j) j (List.replicate j (.bool false))] → BbRel2 w b cb ss (.slice sl j cl) (.slice (some ⟨g, 0, none⟩) j j) j w') := fun g w' h' =>
        ⟨S, T, H, R, hv, List.replicate j false, I, hvl, by simp, by
          have : (fun i => (List.replicate j false).getD i false) = fun _ => false := by funext i; simp [List.getD_eq_getElem?_getD, List.getElem?_replicate]; split <;> rfl
          rw [this]; exact B, by rw [List.map_replicate]; exact h'⟩
      clear I hq hA hm hRl hvl hR B hlt
      go_wp2_with (at_make; refine wpList_make_sep h (by rfl) _ _ 141 rfl 4 Tryz.underlying141 hi1 hy0 hy1 rfl _ _ j (by rfl) (by rfl) rfl rfl (by rw [hy2]; omega) (by unfold maxLen; omega) ?_)
      intro w5 h5
      obtain ⟨g5, hg5⟩ : ∃ g5, wr.heap.size = g5 := ⟨_, rfl⟩
      rw [hg5] at h5 ⊢
      have H5 : Hid (BbRel2 w b cb ss (.slice sl j cl) (.slice (some ⟨g5, 0, none⟩) j j) j w5) := HX.out g5 w5 h5
      clear h h5 hi1 hy0 hy1 hy2 HX hg5
      go_wp2_with fail
      go_loopw [16] (fun iv wr => ∃ i9 : Nat, iv = .int .i64 i9 ∧ i9 ≤ len1 ∧ BbRel2 w b cb ss (.slice sl j cl) (.slice (some ⟨g5, 0, none⟩) j j) j wr) (fun iv _ => len1 - (RowKit.intOf iv).toNat)
      case atStart => exact ⟨0, rfl, Nat.zero_le _, H5.out⟩
      case round =>
        obtain ⟨i9, rfl, hi9, S, T, H, R, hv, gs, I, hvl, hgl, B, h⟩ := hrel
        clear H5
        by_cases hlt : i9 < len1
        · obtain ⟨bb, off, rfl, hb, hc⟩ := HR1.out.cells (by omega)
          have hzj : z1[i9]? = some (z1[i9]'(by rw [HR1.out.count]; exact hlt)) := List.getElem?_eq_getElem _
          obtain ⟨hrl, hro⟩ := HR1.out.ok _ (List.mem_of_getElem? hzj)
          generalize z1[i9]'(by rw [HR1.out.count]; exact hlt) = r at *
          match r, hrl with
          | [d], _ =>
          have hd := bounds_i64 (hro 0 _ d rfl rfl)
          have c1 := h.old (hc i9 _ hzj 0 _ d rfl rfl)
          simp only [List.length_cons, List.length_nil, Nat.add_zero, Nat.zero_add, Nat.reduceAdd, Nat.mul_one, fv] at c1
          clear hc hzj hro hb
          by_cases hdr : 0 ≤ d ∧ d < (j : Int)
          · obtain ⟨k, rfl⟩ := Int.eq_ofNat_of_zero_le hdr.1
            have hk : k < j := by omega
            obtain ⟨x, hx⟩ : ∃ x, hv[k]? = some x := ⟨_, List.getElem?_eq_getElem (by omega)⟩
            obtain ⟨gk, hg⟩ : ∃ x, gs[k]? = some x := ⟨_, List.getElem?_eq_getElem (by omega)⟩
            obtain ⟨s, hs, -⟩ := B.each k x hx
            obtain ⟨er, S', T', H', R', hdrop, her, I', B'⟩ := bb_drop I hvl hgl B h hx hs hg
            obtain ⟨g9, eg, cl0, _⟩ := h.item 2 rfl (o := k) (x := .int .u64 x) (by unfold hvV; rw [List.getElem?_map, hx]; rfl)
            cases eg
            obtain ⟨bs, offs, rfl, hbs, hcs⟩ := HR0.out.cells (by omega)
            have HC0 := Lib.hid (hcs k s hs)
            have hso := HR0.out.ok s (List.mem_of_getElem? hs)
            have hkj : (k : Int) < (j : Int) := by omega
            have dd1 : decide ((0 : Int) ≤ (k : Int)) = true := leT (by omega)
            have dd2 : decide ((k : Int) < (j : Int)) = true := ltT hkj
            have HG : Hid ((gs.map Value.bool)[k]? = some (.bool gk)) := by show _ = _; rw [List.getElem?_map, hg]; rfl
            have HNX : Hid (∀ w2, Sep No w w2 [stR b 100 4294967295 S' T', cpR cb b, rowAt 45 1 (.slice (some ⟨g9, 0, none⟩) j cl) j (hvV hv), rowAt 4 1 (.slice (some ⟨g5, 0, none⟩) j j) j (gs.map Value.bool)] → BbRel2 w b cb ss (.slice (some ⟨g9, 0, none⟩) j cl) (.slice (some ⟨g5, 0, none⟩) j j) j (w2.setCell ⟨g5, k, none⟩ (.bool true))) := fun w2 h2 => by
              have h3 := h2.setItem 3 rfl k (.bool true)
              exact ⟨S', T', H', R', hv, gs.set k true, I', hvl, by rw [List.length_set]; exact hgl, B', by rw [List.map_set]; exact h3⟩
            obtain ⟨q, hqd⟩ : ∃ q, decide ((s.size : Int) ≤ 1000) = q := ⟨_, rfl⟩
            rw [hqd] at her
            clear I hvl hgl B h hx hs hg I' B' hdr hso hbs hcs
            go_wp2_with fail
            refine hdrop.mono ?_
            rintro e w2 ⟨rfl, h2⟩
            have c0 := h2.old HC0.out
            obtain ⟨g7, eg7, cg, fg⟩ := h2.item 3 rfl (o := k) (x := .bool gk) HG.out
            cases eg7
            have fgk := fg k
            have HN := Lib.hid (HNX.out w2 h2)
            clear hdrop h2 HNX HG fg cl0 c1 dd1 dd2
            cases q <;> cases gk
            all_goals
              simp only [Bool.false_and, Bool.true_and, Bool.not_false, Bool.not_true] at her
              go_wp2_with fail
              go_roundw
              case rel => exact ⟨i9 + 1, by go_num, by omega, HN.out⟩
              case measure => simp [RowKit.intOf]; omega
          · have HN : Hid (BbRel2 w b cb ss (.slice sl j cl) (.slice (some ⟨g5, 0, none⟩) j j) j wr) := ⟨S, T, H, R, hv, gs, I, hvl, hgl, B, h⟩
            clear I hvl hgl B h
            by_cases hneg : 0 ≤ d
            · have dd1 : decide ((0 : Int) ≤ d) = true := leT hneg
              have dd2 : decide (d < (j : Int)) = false := ltF (by omega)
              clear hdr hneg
              go_wp2_with fail
              go_roundw
              case rel => exact ⟨i9 + 1, by go_num, by omega, HN.out⟩
              case measure => simp [RowKit.intOf]; omega
            · have dd1 : decide ((0 : Int) ≤ d) = false := leF (by omega)
              clear hdr hneg
              go_wp2_with fail
              go_roundw
              case rel => exact ⟨i9 + 1, by go_num, by omega, HN.out⟩
              case measure => simp [RowKit.intOf]; omega
        · obtain rfl : i9 = len1 := by omega
          have hc := crun_call h 0 1 (by omega) rfl rfl I HT.out K (by omega)
          have HX : Hid (∀ (n : Nat) (d : Bool) (S' : Slb) (T' : HTbl) (H' : List Ent) (R' : List Rc) (w' : World), Ran S T H R K n d S' T' H' R' → Sep No w w' [stR b 100 4294967295 S' T', cpR cb b, rowAt 45 1 (.slice sl j cl) j (hvV hv), rowAt 4 1 (.slice (some ⟨g5, 0, none⟩) j j) j (gs.map Value.bool)] → BbRel2 w b cb ss (.slice sl j cl) (.slice (some ⟨g5, 0, none⟩) j j) j w') := fun n d S' T' H' R' w' hr h' =>
            ⟨S', T', H', R', hv, gs, hr.steps.inv, hvl, hgl, B.moved hr.steps.moved, h'⟩
          clear I hvl hgl B h hlt
          go_wp2_with fail
          refine hc.mono ?_
          rintro e w3 ⟨n, d, S', T', H', R', ⟨rfl, hr⟩, h3⟩
          have H3 : Hid (BbRel2 w b cb ss (.slice sl j cl) (.slice (some ⟨g5, 0, none⟩) j j) j w3) := HX.out n d S' T' H' R' w3 hr h3
          clear hc hr h3 HX
          go_wp2_with fail
          go_loopw [19] (fun iv wr => ∃ i8 : Nat, iv = .int .i64 i8 ∧ i8 ≤ j ∧ BbRel2 w b cb ss (.slice sl j cl) (.slice (some ⟨g5, 0, none⟩) j j) j wr) (fun iv _ => j - (RowKit.intOf iv).toNat)
          case atStart => exact ⟨0, rfl, Nat.zero_le _, H3.out⟩
          case round =>
            obtain ⟨i8, rfl, hi8, S, T, H, R, hv, gs, I, hvl, hgl, B, h⟩ := hrel
            clear H3
            by_cases hlt : i8 < j
            · obtain ⟨x, hx⟩ : ∃ x, hv[i8]? = some x := ⟨_, List.getElem?_eq_getElem (by omega)⟩
              obtain ⟨gk, hg⟩ : ∃ x, gs[i8]? = some x := ⟨_, List.getElem?_eq_getElem (by omega)⟩
              obtain ⟨s, hs, -⟩ := B.each i8 x hx
              obtain ⟨g9, eg, cl0, _⟩ := h.item 2 rfl (o := i8) (x := .int .u64 x) (by unfold hvV; rw [List.getElem?_map, hx]; rfl)
              cases eg
              obtain ⟨g7, eg7, cg, _⟩ := h.item 3 rfl (o := i8) (x := .bool gk) (by rw [List.getElem?_map, hg]; rfl)
              cases eg7
              obtain ⟨bs, offs, rfl, hbs, hcs⟩ := HR0.out.cells (by omega)
              have c0 := h.old (hcs i8 s hs)
              have hij : (i8 : Int) < (j : Int) := by omega
              have hget := bb_get I B h hx hs hg
              have HN : Hid (∀ w', Mod No wr w' → BbRel2 w b cb ss (.slice (some ⟨g9, 0, none⟩) j cl) (.slice (some ⟨g5, 0, none⟩) j j) j w') := fun w' hm => ⟨S, T, H, R, hv, gs, I, hvl, hgl, B, h.more hm⟩
              clear I hvl hgl B h hx hs hg hbs hcs
              rcases hget with ⟨ds, rfl, hc⟩ | ⟨hor, hc⟩
              · go_wp2_with fail
                refine hc.mono ?_
                rintro e w4 ⟨rfl, hm⟩
                have c0 := hm.cell c0 (fun x => x)
                have cg := hm.cell cg (fun x => x)
                have HN2 := Lib.hid (HN.out _ hm)
                clear hc HN hm cl0
                go_wp2_with fail
                go_roundw
                case rel => exact ⟨i8 + 1, by go_num, by omega, HN2.out⟩
                case measure => simp [RowKit.intOf]; omega
              · obtain ⟨q, hqd⟩ : ∃ q, decide ((1000 : Int) < (s.size : Int)) = q := ⟨_, rfl⟩
                rw [hqd] at hor
                have HOR := Lib.hid hor
                clear hor
                go_wp2_with fail
                refine hc.mono ?_
                rintro e w4 ⟨rfl, hm⟩
                have c0 := hm.cell c0 (fun x => x)
                have cg := hm.cell cg (fun x => x)
                have HN2 := Lib.hid (HN.out _ hm)
                clear hc HN hm cl0
                cases gk with
                | true =>
                  go_wp2_with fail
                  go_roundw
                  case rel => exact ⟨i8 + 1, by go_num, by omega, HN2.out⟩
                  case measure => simp [RowKit.intOf]; omega
                | false =>
                  obtain rfl : q = true := by
                    rcases HOR.out with h | h
                    · exact h
                    · cases h
                  go_wp2_with fail
                  go_roundw
                  case rel => exact ⟨i8 + 1, by go_num, by omega, HN2.out⟩
                  case measure => simp [RowKit.intOf]; omega
            · obtain rfl : i8 = j := by omega
              have hau := staudit_call h 0 rfl I
              clear I hvl hgl B h hlt
              go_wp2_with fail
              refine hau.mono ?_
              rintro e w5 ⟨rfl, h5⟩
              have HM := Lib.hid h5.mod
              clear hau h5
              go_wp2_with fail
              have ha := awake09_call w5 (HT.out.mod HM.out)
              go_wp2_with fail
              refine ha.mono ?_
              rintro e w9 ⟨rfl, hm9⟩
              have H9 := Lib.hid (HM.out.trans' hm9)
              clear ha hm9
              go_wp2
              go_ret
              exact ⟨rfl, H9.out.below _ (Nat.le_refl _) (fun _ _ x => x)⟩

theorem blobBack_walk (s0 : Option Addr) (len0 cap0 : Nat) (ss : List ByteArray) (s1 : Option Addr) (len1 cap1 : Nat) (z1 : List (List Int)) (K : Int) (w : World) (R0 : Strs w s0 len0 ss) (R1 : Recs w s1 len1 [some .i64] z1) (wk : (Lit.int .i64 K).wf = true) (hT : Tab64 w) :
    Calls Tryz.prog 18 #[.slice s0 len0 cap0, .slice s1 len1 cap1, .int .i64 K] w fun e w' => e = .returned (.bool true) ∧ Below w.heap.size w w' := by
  by_cases hall : len0 ≤ 30 ∧ len1 ≤ 30 ∧ 0 ≤ K ∧ K ≤ 100
  · obtain ⟨k, rfl⟩ := Int.eq_ofNat_of_zero_le hall.2.2.1
    exact bback_in s0 len0 cap0 ss s1 len1 cap1 z1 k w R0 hall.1 R1 hall.2.1 (by omega) hT
  · have HM := Lib.hid (Mod.refl No w)
    have HT := Lib.hid hT
    clear hT R0 R1 wk
    have hd : decide ((30 : Int) < (len0 : Int)) = true ∨ decide ((30 : Int) < (len0 : Int)) = false ∧ decide ((30 : Int) < (len1 : Int)) = true ∨ decide ((30 : Int) < (len0 : Int)) = false ∧ decide ((30 : Int) < (len1 : Int)) = false ∧ decide (K < 0) = true ∨ decide ((30 : Int) < (len0 : Int)) = false ∧ decide ((30 : Int) < (len1 : Int)) = false ∧ decide (K < 0) = false ∧ decide (100 < K) = true := by
      by_cases h1 : (30 : Int) < (len0 : Int)
      · exact .inl (ltT h1)
      · by_cases h2 : (30 : Int) < (len1 : Int)
        · exact .inr (.inl ⟨ltF (by omega), ltT h2⟩)
        · by_cases h3 : K < 0
          · exact .inr (.inr (.inl ⟨ltF (by omega), ltF (by omega), ltT h3⟩))
          · exact .inr (.inr (.inr ⟨ltF (by omega), ltF (by omega), ltF (by omega), ltT (by omega)⟩))
    clear hall
    rcases hd with d1 | ⟨d1, d2⟩ | ⟨d1, d2, d3⟩ | ⟨d1, d2, d3, d4⟩
    all_goals
      go_enter Tryz.func18, Tryz.ntmps18
      go_wp2_with fail
      have ha := awake09_call w (HT.out.mod HM.out)
      go_wp2_with fail
      refine ha.mono ?_
      rintro e w9 ⟨rfl, hm9⟩
      have H9 := Lib.hid (HM.out.trans' hm9)
      clear ha hm9
      go_wp2
      go_ret
      exact ⟨rfl, H9.out.below _ (Nat.le_refl _) (fun _ _ x => x)⟩
end Go.Proofs.YtfmcddomciicdaaGreatDoor
