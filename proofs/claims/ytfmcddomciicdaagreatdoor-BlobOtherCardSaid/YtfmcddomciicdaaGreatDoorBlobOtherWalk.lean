/- BlobOther, walked. Condition: the table of math/bits holds what its initialiser lays. -/
import Derived.Test.YtfmcddomciicdaaGreatDoorAwake09
import Derived.Test.YtfmcddomciicdaaGreatDoorBlobDrop
import Derived.Test.YtfmcddomciicdaaGreatDoorArgsNode
import Derived.Deep.RegionHeld3
import Derived.Deep.DeepCutAuto
set_option linter.unusedVariables false
set_option linter.unusedSimpArgs false
set_option maxRecDepth 100000
namespace Go.Proofs.YtfmcddomciicdaaGreatDoor
open Go Go.RowKit

def BoRel1 (w : World) (b : Nat) (ss : List ByteArray) (lv : Value) (n : Nat) (wr : World) : Prop := ∃ (S : Slb) (T : HTbl) (H : List Ent) (R : List Rc), StInv S T H R ∧ S.quota = 262144 ∧ T.AllOpen ∧ T.most = 100 ∧ R.length = n ∧ (∀ (k : Nat) (r : Rc), R[k]? = some r → 0 ≤ r.a ∧ ∃ s, ss[k]? = some s ∧ s.size ≤ 200 ∧ r.w = Txt.tw s) ∧
  Sep No w wr [stR b 100 9 S T, rowAt 45 1 lv n (hds R)]
def BoRel2 (w : World) (b : Nat) (ss : List ByteArray) (lv : Value) (n : Nat) (d : Int) (wr : World) : Prop := ∃ (S : Slb) (T : HTbl) (H : List Ent) (R : List Rc), StInv S T H R ∧ R.length = n ∧ (∀ (k : Nat) (r : Rc), R[k]? = some r → (0 ≤ r.a ↔ (k : Int) ≠ d) ∧ ∃ s, ss[k]? = some s ∧ s.size ≤ 200 ∧ r.w = Txt.tw s) ∧
  Sep No w wr [stR b 100 9 S T, rowAt 45 1 lv n (hds R)]

theorem hds_at {R : List Rc} {k : Nat} {r : Rc} (h : R[k]? = some r) : (hds R)[k]? = some (.int .u64 r.h) := by
  unfold hds
  rw [List.getElem?_map, List.getElem?_map, h]
  rfl
theorem hds_snoc (R : List Rc) (r : Rc) : hds (R ++ [r]) = hds R ++ [.int .u64 r.h] := by
  unfold hds
  rw [List.map_append, List.map_append]
  rfl

theorem infoHdlB : (Tryz.prog.info? 45).map (fun i => (i.zero, i.size, i.bytes)) = some (some (.int .u64 0), 1, 8) := by kernel_rfl


set_option maxRecDepth 100000 in
set_option maxHeartbeats 4000000 in
theorem bother_in (s0 : Option Addr) (len0 cap0 : Nat) (ss : List ByteArray) (d : Int) (w : World) (R0 : Strs w s0 len0 ss) (hlen : len0 ≤ 20) (hd : -9223372036854775808 ≤ d ∧ d ≤ 9223372036854775807) (hT : Tab64 w) :
    Calls Tryz.prog 15 #[.slice s0 len0 cap0, .int .i64 d] w fun e w' => e = .returned (.bool true) ∧ Below w.heap.size w w' := by
  have d0 : decide ((20 : Int) < (len0 : Int)) = false := ltF (by omega)
  have HR := Lib.hid R0
  have HT := Lib.hid hT
  obtain ⟨i0, hi0, hz0, hz1, hz2⟩ := info_parts infoHdlB
  have HI := Lib.hid (And.intro hi0 (And.intro hz0 (And.intro hz1 hz2)))
  clear R0 hT hi0 hz0 hz1 hz2
  go_enter Tryz.func15, Tryz.ntmps15
  go_wp2_with fail
  refine (stnew_call (Sep.nil w) 262144 100 9 (by omega) (by omega) (by omega) (by omega) (by omega) (by omega)).mono ?_
  rintro e w1 ⟨b, rfl, h1⟩
  have hst : Hid (BoRel1 w b ss (.slice none 0 0) 0 w1) := ⟨_, _, [], [], StInv.start (by omega) (by omega) (by omega) (by omega) (by omega) (by omega), rfl, HTbl.AllOpen.new, rfl, rfl, by simp, h1.pushNil 45 1⟩
  clear h1
  go_wp2_with fail
  go_loopw [7, 8] (fun lv i wr => ∃ j : Nat, i = .int .i64 j ∧ j ≤ len0 ∧ BoRel1 w b ss lv j wr) (fun _ i _ => len0 - (RowKit.intOf i).toNat)
  case atStart => exact ⟨0, rfl, Nat.zero_le _, hst.out⟩
  case round =>
    obtain ⟨j, rfl, hj, S, T, H, R, I, hq, hA, hm, hl, hR, h⟩ := hrel
    clear hst
    obtain ⟨sl, cl, rfl⟩ := h.form 1 rfl
    by_cases hlt : j < len0
    · obtain ⟨bb, off, rfl, hb, hcs⟩ := HR.out.cells (by omega)
      have hzj : ss[j]? = some (ss[j]'(by rw [HR.out.count]; exact hlt)) := List.getElem?_eq_getElem _
      generalize ss[j]'(by rw [HR.out.count]; exact hlt) = s at *
      have hso := HR.out.ok s (List.mem_of_getElem? hzj)
      have c0 := h.old (hcs j s hzj)
      by_cases hs : s.size ≤ 200
      · have ds : decide ((200 : Int) < (s.size : Int)) = false := ltF (by omega)
        obtain ⟨L, hL⟩ : ∃ L, L = 1 + (s.size + 7) / 8 := ⟨_, rfl⟩
        have hL1 : 1 ≤ L ∧ L ≤ 26 := by omega
        have hla : ∀ r ∈ R, 0 ≤ r.a := fun r hr => by obtain ⟨k, hk⟩ := List.mem_iff_getElem?.1 hr; exact (hR k r hk).1
        have hlw : ∀ r ∈ R, r.w.length ≤ 26 := fun r hr => by
          obtain ⟨k, hk⟩ := List.mem_iff_getElem?.1 hr
          obtain ⟨s', _, h1, h2⟩ := (hR k r hk).2
          rw [h2, Txt.tw_len]
          omega
        obtain ⟨hdl, er, S', T', H', R', M⟩ := I.made (L : Int)
        obtain rfl := I.made_ok hA.noret (by omega) (by omega) (by rw [liveR_all hla, hm]; omega) (by
          have h1 := pgR_le (R := R) (k := 1) (by omega) (fun r hr => by have := hlw r hr; omega)
          have h2 := liveR_le R
          have h3 : Slb.pagesOf ((L : Int) + 2) ≤ 1 := by unfold Slb.pagesOf; rw [if_pos (by omega)]; exact Nat.le_refl _
          rw [hq]
          omega) M
        have hput := bput_ok h 0 rfl I (HT.out.mod h.mod) (by omega) hL M
        have HY : Hid (∀ (gg capg : Nat) (S2 : Slb) (a2 : Nat) (w' : World), StInv S2 T' H' (R ++ [⟨hdl, (a2 : Int), Txt.tw s⟩]) → S2.quota = S'.quota → Sep No w w' [stR b 100 9 S2 T', rowAt 45 1 (.slice (some ⟨gg, 0, none⟩) (j + 1) capg) (j + 1) (hds R ++ [.int .u64 hdl])] → BoRel1 w b ss (.slice (some ⟨gg, 0, none⟩) (j + 1) capg) (j + 1) w') := fun gg capg S2 a2 w' I2 hq2 h' => by
          refine ⟨S2, T', H', _, I2, hq2.trans (M.quo.trans hq), M.allOpen hA, M.most.trans hm, by simp [hl], fun k r hk => ?_, by rw [hds_snoc]; exact h'⟩
          by_cases hkj : k < j
          · rw [List.getElem?_append_left (by omega)] at hk
            exact hR k r hk
          · rw [List.getElem?_append_right (by omega)] at hk
            have hk0 : k - R.length = 0 := by
              have := (List.getElem?_eq_some_iff.1 hk).1
              simp at this
              omega
            rw [hk0] at hk
            cases hk
            exact ⟨Int.natCast_nonneg a2, s, by rw [show k = j by omega]; exact hzj, hs, rfl⟩
        have hjl : j ≤ 20 := by omega
        obtain ⟨hi0, hz0, hz1, hz2⟩ := HI.out
        clear I hq hA hm hl hR h hcs hzj hso hL hla hlw M
        go_wp2_with fail
        refine hput.mono ?_
        rintro e w2 ⟨⟨S2, a2⟩, ⟨rfl, I2, -, hq2⟩, h2⟩
        have h2 : Sep No w w2 [stR b 100 9 S2 T', rowAt 45 1 (.slice sl j cl) j (hds R)] := h2
        have HI2 := Lib.hid (And.intro I2 hq2)
        clear hput I2 hq2 c0
        go_wp2_with (at_builtin; refine wpList_append_sep1 h2 1 rfl (by rfl) _ _ 29 rfl Tryz.underlying29 hi0 hz0 hz1 hz2 rfl (by rfl) _ _ (by rfl) (by simp) (by rfl) _ (by unfold maxLen; omega) (by omega) ?_)
        intro gg capg w3 h3
        have H3 := Lib.hid (HY.out gg capg S2 a2 w3 HI2.out.1 HI2.out.2 h3)
        clear h2 h3 hi0 hz0 hz1 hz2 HY
        go_wp2
        go_roundw
        case rel => exact ⟨j + 1, by go_num, by omega, H3.out⟩
        case measure => simp [RowKit.intOf]; omega
      · have ds : decide ((200 : Int) < (s.size : Int)) = true := ltT (by omega)
        have HM := Lib.hid h.mod
        clear I hq hA hm hl hR h hcs hzj hs
        go_wp2_with fail
        have ha := awake09_call wr (HT.out.mod HM.out)
        go_wp2_with fail
        refine ha.mono ?_
        rintro e w9 ⟨rfl, hm9⟩
        have H9 := Lib.hid (HM.out.trans' hm9)
        clear ha hm9
        go_wp2
        go_ret
        exact ⟨rfl, H9.out.below _ (Nat.le_refl _) (fun _ _ x => x)⟩
    · obtain rfl : j = len0 := by omega
      have hjl : j ≤ 20 := by omega
      by_cases hdr : 0 ≤ d ∧ d < (j : Int)
      · obtain ⟨k, rfl⟩ := Int.eq_ofNat_of_zero_le hdr.1
        have hk : k < j := by omega
        obtain ⟨r, hrk⟩ : ∃ r, R[k]? = some r := ⟨_, List.getElem?_eq_getElem (by omega)⟩
        obtain ⟨ha, s, hs, hs200, hw⟩ := hR k r hrk
        obtain ⟨g, rfl, cl0, _⟩ := h.item 1 rfl (o := k) (x := .int .u64 r.h) (hds_at hrk)
        have hrg := I.rng hrk
        obtain ⟨S', T', H', D⟩ := I.dropOk hrk ha
        have hc := bdrop_ok h 0 rfl I (hh := r.h) ⟨hrg.1, hrg.2.1⟩ ⟨hrk, ha, rfl⟩ (by omega) hw D
        have HY : Hid (∀ w', Sep No w w' [stR b 100 9 S' T', rowAt 45 1 (.slice (some ⟨g, 0, none⟩) j cl) j (hds R)] → BoRel2 w b ss (.slice (some ⟨g, 0, none⟩) j cl) j (k : Int) w') := fun w' h' => by
          refine ⟨S', T', H', _, D.inv, by rw [List.length_set]; exact hl, fun i q hi => ?_, by rw [hds_set (r' := { r with a := -1 }) hrk rfl]; exact h'⟩
          rw [List.getElem?_set] at hi
          by_cases e : k = i
          · subst e
            rw [if_pos rfl, if_pos (by omega)] at hi
            cases hi
            exact ⟨⟨fun h => absurd h (by show ¬ (0 : Int) ≤ -1; omega), fun h => absurd rfl h⟩, s, hs, hs200, hw⟩
          · rw [if_neg e] at hi
            obtain ⟨h1, h2⟩ := hR i q hi
            exact ⟨⟨fun _ => by omega, fun _ => h1⟩, h2⟩
        have dd1 : decide ((0 : Int) ≤ (k : Int)) = true := leT (by omega)
        have dd2 : decide ((k : Int) < (j : Int)) = true := ltT (by omega)
        have hkj : (k : Int) < (j : Int) := by omega
        clear I hq hA hm hl hR h hrk ha hs hs200 hw hrg D hdr hlt
        go_wp2_with fail
        refine hc.mono ?_
        rintro e w2 ⟨rfl, h2⟩
        have H2 : Hid (BoRel2 w b ss (.slice (some ⟨g, 0, none⟩) j cl) j (k : Int) w2) := HY.out w2 h2
        clear hc h2 HY cl0 dd1 dd2
        go_wp2_with fail
        go_loopw [11] (fun i wr => ∃ i9 : Nat, i = .int .i64 i9 ∧ i9 ≤ j ∧ BoRel2 w b ss (.slice (some ⟨g, 0, none⟩) j cl) j ((k : Int)) wr) (fun i _ => j - (RowKit.intOf i).toNat)
        case atStart => exact ⟨0, rfl, Nat.zero_le _, H2.out⟩
        case round =>
          obtain ⟨i, rfl, hi, S, T, H, R, I, hl, hR, h⟩ := hrel
          clear H2
          by_cases hlt : i < j
          · obtain ⟨r, hrk⟩ : ∃ r, R[i]? = some r := ⟨_, List.getElem?_eq_getElem (by omega)⟩
            have HN : Hid (∀ w', Mod No wr w' → BoRel2 w b ss (.slice (some ⟨g, 0, none⟩) j cl) j ((k : Int)) w') := fun w' hm => ⟨S, T, H, R, I, hl, hR, h.more hm⟩
            obtain ⟨ha, s, hs, hs200, hw⟩ := hR i r hrk
            obtain ⟨g9, eg, cl0, _⟩ := h.item 1 rfl (o := i) (x := .int .u64 r.h) (hds_at hrk)
            cases eg
            have hrg := I.rng hrk
            obtain ⟨bb, off, rfl, hb, hcs⟩ := HR.out.cells (by omega)
            have c0 := h.old (hcs i s hs)
            have hij : (i : Int) < (j : Int) := by omega
            by_cases hkd : (i : Int) = (k : Int)
            · have hc := bget_no h 0 rfl I (hh := r.h) ⟨hrg.1, hrg.2.1⟩ (I.gone hrk (by have := hrg.2.2; have : ¬ 0 ≤ r.a := fun h => (ha.1 h) hkd; omega))
              have de : ((i : Int) == (k : Int)) = true := beqT hkd
              have de2 : ((i : Int) != (k : Int)) = false := bneF hkd
              clear I hl hR h hrk ha hs hs200 hw hrg hcs hkd c0
              go_wp2_with fail
              refine hc.mono ?_
              rintro e w' ⟨rfl, rfl⟩
              clear hc
              have HN2 := Lib.hid (HN.out _ (Mod.refl No _))
              clear HN
              go_wp2_with fail
              go_roundw
              case rel => exact ⟨i + 1, by go_num, by omega, HN2.out⟩
              case measure => simp [RowKit.intOf]; omega
            · have hc := bget_ok h 0 rfl I (hh := r.h) ⟨hrg.1, hrg.2.1⟩ ⟨hrk, ha.2 hkd, rfl⟩ (by omega) hw
              have de : ((i : Int) == (k : Int)) = false := beqF hkd
              have de2 : ((i : Int) != (k : Int)) = true := bneT hkd
              clear I hl hR h hrk ha hs hs200 hw hrg hcs hkd
              go_wp2_with fail
              refine hc.mono ?_
              rintro e w3 ⟨rfl, hm⟩
              have c0 := hm.cell c0 (fun x => x)
              have HN2 := Lib.hid (HN.out _ hm)
              clear hc HN hm cl0
              go_wp2_with fail
              go_roundw
              case rel => exact ⟨i + 1, by go_num, by omega, HN2.out⟩
              case measure => simp [RowKit.intOf]; omega
          · obtain rfl : i = j := by omega
            have HM := Lib.hid h.mod
            clear I hl hR h hlt
            go_wp2_with fail
            have ha := awake09_call wr (HT.out.mod HM.out)
            go_wp2_with fail
            refine ha.mono ?_
            rintro e w9 ⟨rfl, hm9⟩
            have H9 := Lib.hid (HM.out.trans' hm9)
            clear ha hm9
            go_wp2
            go_ret
            exact ⟨rfl, H9.out.below _ (Nat.le_refl _) (fun _ _ x => x)⟩
      · have H2 : Hid (BoRel2 w b ss (.slice sl j cl) j d wr) := ⟨S, T, H, R, I, hl, fun k r hk => ⟨⟨fun _ => by have := (List.getElem?_eq_some_iff.1 hk).1; omega, fun _ => (hR k r hk).1⟩, (hR k r hk).2⟩, h⟩
        clear I hq hA hm hl hR h hlt
        by_cases hneg : 0 ≤ d
        · have dd1 : decide ((0 : Int) ≤ d) = true := leT hneg
          have dd2 : decide (d < (j : Int)) = false := ltF (by omega)
          clear hdr hneg
          go_wp2_with fail
          go_loopw [11] (fun i wr => ∃ i9 : Nat, i = .int .i64 i9 ∧ i9 ≤ j ∧ BoRel2 w b ss (.slice (sl) j cl) j (d) wr) (fun i _ => j - (RowKit.intOf i).toNat)
          case atStart => exact ⟨0, rfl, Nat.zero_le _, H2.out⟩
          case round =>
            obtain ⟨i, rfl, hi, S, T, H, R, I, hl, hR, h⟩ := hrel
            clear H2
            by_cases hlt : i < j
            · obtain ⟨r, hrk⟩ : ∃ r, R[i]? = some r := ⟨_, List.getElem?_eq_getElem (by omega)⟩
              have HN : Hid (∀ w', Mod No wr w' → BoRel2 w b ss (.slice (sl) j cl) j (d) w') := fun w' hm => ⟨S, T, H, R, I, hl, hR, h.more hm⟩
              obtain ⟨ha, s, hs, hs200, hw⟩ := hR i r hrk
              obtain ⟨g9, eg, cl0, _⟩ := h.item 1 rfl (o := i) (x := .int .u64 r.h) (hds_at hrk)
              cases eg
              have hrg := I.rng hrk
              obtain ⟨bb, off, rfl, hb, hcs⟩ := HR.out.cells (by omega)
              have c0 := h.old (hcs i s hs)
              have hij : (i : Int) < (j : Int) := by omega
              by_cases hkd : (i : Int) = d
              · have hc := bget_no h 0 rfl I (hh := r.h) ⟨hrg.1, hrg.2.1⟩ (I.gone hrk (by have := hrg.2.2; have : ¬ 0 ≤ r.a := fun h => (ha.1 h) hkd; omega))
                have de : ((i : Int) == d) = true := beqT hkd
                have de2 : ((i : Int) != d) = false := bneF hkd
                clear I hl hR h hrk ha hs hs200 hw hrg hcs hkd c0
                go_wp2_with fail
                refine hc.mono ?_
                rintro e w' ⟨rfl, rfl⟩
                clear hc
                have HN2 := Lib.hid (HN.out _ (Mod.refl No _))
                clear HN
                go_wp2_with fail
                go_roundw
                case rel => exact ⟨i + 1, by go_num, by omega, HN2.out⟩
                case measure => simp [RowKit.intOf]; omega
              · have hc := bget_ok h 0 rfl I (hh := r.h) ⟨hrg.1, hrg.2.1⟩ ⟨hrk, ha.2 hkd, rfl⟩ (by omega) hw
                have de : ((i : Int) == d) = false := beqF hkd
                have de2 : ((i : Int) != d) = true := bneT hkd
                clear I hl hR h hrk ha hs hs200 hw hrg hcs hkd
                go_wp2_with fail
                refine hc.mono ?_
                rintro e w3 ⟨rfl, hm⟩
                have c0 := hm.cell c0 (fun x => x)
                have HN2 := Lib.hid (HN.out _ hm)
                clear hc HN hm cl0
                go_wp2_with fail
                go_roundw
                case rel => exact ⟨i + 1, by go_num, by omega, HN2.out⟩
                case measure => simp [RowKit.intOf]; omega
            · obtain rfl : i = j := by omega
              have HM := Lib.hid h.mod
              clear I hl hR h hlt
              go_wp2_with fail
              have ha := awake09_call wr (HT.out.mod HM.out)
              go_wp2_with fail
              refine ha.mono ?_
              rintro e w9 ⟨rfl, hm9⟩
              have H9 := Lib.hid (HM.out.trans' hm9)
              clear ha hm9
              go_wp2
              go_ret
              exact ⟨rfl, H9.out.below _ (Nat.le_refl _) (fun _ _ x => x)⟩
        · have dd1 : decide ((0 : Int) ≤ d) = false := leF (by omega)
          clear hdr hneg
          go_wp2_with fail
          go_loopw [11] (fun i wr => ∃ i9 : Nat, i = .int .i64 i9 ∧ i9 ≤ j ∧ BoRel2 w b ss (.slice (sl) j cl) j (d) wr) (fun i _ => j - (RowKit.intOf i).toNat)
          case atStart => exact ⟨0, rfl, Nat.zero_le _, H2.out⟩
          case round =>
            obtain ⟨i, rfl, hi, S, T, H, R, I, hl, hR, h⟩ := hrel
            clear H2
            by_cases hlt : i < j
            · obtain ⟨r, hrk⟩ : ∃ r, R[i]? = some r := ⟨_, List.getElem?_eq_getElem (by omega)⟩
              have HN : Hid (∀ w', Mod No wr w' → BoRel2 w b ss (.slice (sl) j cl) j (d) w') := fun w' hm => ⟨S, T, H, R, I, hl, hR, h.more hm⟩
              obtain ⟨ha, s, hs, hs200, hw⟩ := hR i r hrk
              obtain ⟨g9, eg, cl0, _⟩ := h.item 1 rfl (o := i) (x := .int .u64 r.h) (hds_at hrk)
              cases eg
              have hrg := I.rng hrk
              obtain ⟨bb, off, rfl, hb, hcs⟩ := HR.out.cells (by omega)
              have c0 := h.old (hcs i s hs)
              have hij : (i : Int) < (j : Int) := by omega
              by_cases hkd : (i : Int) = d
              · have hc := bget_no h 0 rfl I (hh := r.h) ⟨hrg.1, hrg.2.1⟩ (I.gone hrk (by have := hrg.2.2; have : ¬ 0 ≤ r.a := fun h => (ha.1 h) hkd; omega))
                have de : ((i : Int) == d) = true := beqT hkd
                have de2 : ((i : Int) != d) = false := bneF hkd
                clear I hl hR h hrk ha hs hs200 hw hrg hcs hkd c0
                go_wp2_with fail
                refine hc.mono ?_
                rintro e w' ⟨rfl, rfl⟩
                clear hc
                have HN2 := Lib.hid (HN.out _ (Mod.refl No _))
                clear HN
                go_wp2_with fail
                go_roundw
                case rel => exact ⟨i + 1, by go_num, by omega, HN2.out⟩
                case measure => simp [RowKit.intOf]; omega
              · have hc := bget_ok h 0 rfl I (hh := r.h) ⟨hrg.1, hrg.2.1⟩ ⟨hrk, ha.2 hkd, rfl⟩ (by omega) hw
                have de : ((i : Int) == d) = false := beqF hkd
                have de2 : ((i : Int) != d) = true := bneT hkd
                clear I hl hR h hrk ha hs hs200 hw hrg hcs hkd
                go_wp2_with fail
                refine hc.mono ?_
                rintro e w3 ⟨rfl, hm⟩
                have c0 := hm.cell c0 (fun x => x)
                have HN2 := Lib.hid (HN.out _ hm)
                clear hc HN hm cl0
                go_wp2_with fail
                go_roundw
                case rel => exact ⟨i + 1, by go_num, by omega, HN2.out⟩
                case measure => simp [RowKit.intOf]; omega
            · obtain rfl : i = j := by omega
              have HM := Lib.hid h.mod
              clear I hl hR h hlt
              go_wp2_with fail
              have ha := awake09_call wr (HT.out.mod HM.out)
              go_wp2_with fail
              refine ha.mono ?_
              rintro e w9 ⟨rfl, hm9⟩
              have H9 := Lib.hid (HM.out.trans' hm9)
              clear ha hm9
              go_wp2
              go_ret
              exact ⟨rfl, H9.out.below _ (Nat.le_refl _) (fun _ _ x => x)⟩

theorem blobOther_walk (s0 : Option Addr) (len0 cap0 : Nat) (ss : List ByteArray) (d : Int) (w : World) (R0 : Strs w s0 len0 ss) (wd : (Lit.int .i64 d).wf = true) (hT : Tab64 w) :
    Calls Tryz.prog 15 #[.slice s0 len0 cap0, .int .i64 d] w fun e w' => e = .returned (.bool true) ∧ Below w.heap.size w w' := by
  by_cases h : len0 ≤ 20
  · exact bother_in s0 len0 cap0 ss d w R0 h (bounds_i64 wd) hT
  · have d0 : decide ((20 : Int) < (len0 : Int)) = true := ltT (by omega)
    have HT := Lib.hid hT
    have HM := Lib.hid (Mod.refl No w)
    clear hT h R0 wd
    go_enter Tryz.func15, Tryz.ntmps15
    go_wp2_with fail
    have ha := awake09_call w (HT.out.mod HM.out)
    go_wp2_with fail
    refine ha.mono ?_
    rintro e w9 ⟨rfl, hm9⟩
    have H9 := Lib.hid (HM.out.trans' hm9)
    clear ha hm9
    go_wp2
    go_ret
    exact ⟨rfl, H9.out.below _ (Nat.le_refl _) (fun _ _ x => x)⟩
end Go.Proofs.YtfmcddomciicdaaGreatDoor
