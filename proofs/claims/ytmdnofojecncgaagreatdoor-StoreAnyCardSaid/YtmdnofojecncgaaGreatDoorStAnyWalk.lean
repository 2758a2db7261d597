/- Package store, walked: Audit of a store of any arena and table. Conditions: the arena is one, its pages lie low. -/
import Derived.Test.YtmdnofojecncgaaGreatDoorStAny
set_option linter.unusedVariables false
set_option linter.unusedSimpArgs false
set_option maxRecDepth 100000
namespace Go.Proofs.YtmdnofojecncgaaGreatDoor
open Go Go.RowKit

variable {F : Nat → Prop} {w : World}
section
variable {b s hp t : Nat} {m la : Int} {S : Slb} {T : HTbl}

theorem stfits_any {w' : World} (h : Sep F w w' [stAt b m la s hp t, slabR s S, hpAt hp s, tabR t T]) (a : Int) (had : 0 ≤ a ∧ a ≤ 67108864) {x : Int} (hx : S.room a = (x, 0)) (n : Nat) (hl : n ≤ 3998) :
    Calls Tryz.prog 68 #[.pointer (some ⟨b, 0, none⟩), .int .i64 a, .int .i64 (n : Nat)] w' fun e w'' => e = .returned (.bool (decide (x = ((Slb.roomOf ((n : Int) + 2) : Nat) : Int)))) ∧ Mod No w' w'' := by
  have c3 := (h.cell 0 rfl 3 (v := .pointer (some ⟨hp, 0, none⟩)) rfl).1
  have hrm := hroom_call h 2 1 rfl rfl a (by omega) (by omega)
  rw [hx] at hrm
  have e1 : IntKind.i64.wrap ((n : Int) + 2) = (n : Int) + 2 := by rw [IntKind.wrap_i64]; omega
  have hof := fun W => of_call ((n : Int) + 2) W
  have hsz := fun c W => size_call c W
  have HOF := Lib.hid hof
  have HSZ := Lib.hid hsz
  clear h had hof hsz hx
  by_cases hs : (n : Int) + 2 ≤ 28
  · have ec : cof ((n : Int) + 2) = (((clsOf ((n : Int) + 2) : Nat) : Int), true, 0) := by unfold cof; rw [if_neg (by omega), if_pos hs]
    have er : Slb.roomOf ((n : Int) + 2) = csz (clsOf ((n : Int) + 2)) := if_pos hs
    have es : csize ((clsOf ((n : Int) + 2) : Nat) : Int) = (((csz (clsOf ((n : Int) + 2)) : Nat) : Int), 0) := by
      rw [csize_in (by omega) (by have := clsOf_lt ((n : Int) + 2); omega), Int.toNat_natCast]
    have ho := fun W => HOF.out W
    have hz := fun W => HSZ.out ((clsOf ((n : Int) + 2) : Nat) : Int) W
    simp only [ec] at ho
    simp only [es] at hz
    rw [er]
    obtain ⟨c, hc⟩ : ∃ c, clsOf ((n : Int) + 2) = c := ⟨_, rfl⟩
    rw [hc] at ho hz ⊢
    obtain ⟨z, hz0⟩ : ∃ z, ((csz c : Nat) : Int) = z := ⟨_, rfl⟩
    simp only [hz0] at hz
    rw [hz0]
    have HO := Lib.hid ho
    have HZ := Lib.hid hz
    obtain ⟨bv, hbv⟩ : ∃ bv, decide (x = z) = bv := ⟨_, rfl⟩
    have d : (x == z) = bv := by rw [← hbv]; exact (Bool.eq_iff_iff.2 (by simp))
    rw [hbv]
    clear ho hz ec er es hc hz0 hs hbv
    go_enter Tryz.func68, Tryz.ntmps68
    go_wp2_with fail
    refine hrm.mono ?_
    rintro e w1 ⟨rfl, m1⟩
    have M1 := Lib.hid m1
    have k := HO.out w1
    clear hrm m1 c3
    go_wp2_with fail
    refine k.mono ?_
    rintro e w2 ⟨rfl, m2⟩
    have M2 := Lib.hid (M1.out.trans' m2)
    have k := HZ.out w2
    clear m2 M1
    go_wp2_with fail
    refine k.mono ?_
    rintro e w3 ⟨rfl, m3⟩
    have M3 := Lib.hid (M2.out.trans' m3)
    clear m3 M2 k
    go_wp2
    go_ret
    exact ⟨rfl, M3.out⟩
  · have ec : cof ((n : Int) + 2) = (0, false, 0) := by unfold cof; rw [if_neg (by omega), if_neg hs]
    have er : ((Slb.roomOf ((n : Int) + 2) : Nat) : Int) = (n : Int) + 2 := by unfold Slb.roomOf; rw [if_neg hs]; omega
    have es : csize 0 = (((csz 0 : Nat) : Int), 0) := csize_in (by omega) (by omega)
    have ho := fun W => HOF.out W
    have hz := fun W => HSZ.out 0 W
    simp only [ec] at ho
    simp only [es] at hz
    rw [er]
    obtain ⟨z, hz0⟩ : ∃ z, ((csz 0 : Nat) : Int) = z := ⟨_, rfl⟩
    simp only [hz0] at hz
    have HO := Lib.hid ho
    have HZ := Lib.hid hz
    obtain ⟨bv, hbv⟩ : ∃ bv, decide (x = (n : Int) + 2) = bv := ⟨_, rfl⟩
    have d : (x == (n : Int) + 2) = bv := by rw [← hbv]; exact (Bool.eq_iff_iff.2 (by simp))
    rw [hbv]
    clear ho hz ec er es hz0 hs hbv
    go_enter Tryz.func68, Tryz.ntmps68
    go_wp2_with fail
    refine hrm.mono ?_
    rintro e w1 ⟨rfl, m1⟩
    have M1 := Lib.hid m1
    have k := HO.out w1
    clear hrm m1 c3
    go_wp2_with fail
    refine k.mono ?_
    rintro e w2 ⟨rfl, m2⟩
    have M2 := Lib.hid (M1.out.trans' m2)
    have k := HZ.out w2
    clear m2 M1
    go_wp2_with fail
    refine k.mono ?_
    rintro e w3 ⟨rfl, m3⟩
    have M3 := Lib.hid (M2.out.trans' m3)
    clear m3 M2 k
    go_wp2
    go_ret
    exact ⟨rfl, M3.out⟩


theorem at_07 (T : HTbl) (h : Int) : (T.at' h).2 = 0 ∨ (T.at' h).2 = 7 := by
  unfold HTbl.at'
  split
  · split
    · exact .inl rfl
    · exact .inr rfl
  · exact .inr rfl


set_option maxHeartbeats 2000000 in
theorem staudit_anyIn (h : Sep F w w [stAt b m la s hp t, slabR s S, hpAt hp s, tabR t T]) (hlow : ∀ k ∈ S.pg, k < 1048576) :
    Calls Tryz.prog 26 #[.pointer (some ⟨b, 0, none⟩)] w fun e w' => e = .returned (.int .i64 (stAudit S T)) ∧ Sep F w w' [stAt b m la s hp t, slabR s S, hpAt hp s, tabR t T] := by
  have hn := stnone_call h 0 rfl
  have hau := h.hAudit 2 1 rfl rfl
  have c3 := (h.cell 0 rfl 3 (v := .pointer (some ⟨hp, 0, none⟩)) rfl).1
  have hS := h.sOk 1 rfl
  have hlen := live_len hS
  have H0 := Lib.hid h
  rcases audit_08 S with ha | ha
  · rw [ha] at hau
    have P := Slb.audit_rep hS hlow ha
    have HP := Lib.hid P
    have HA := Lib.hid ha
    have HS := Lib.hid hS
    clear h P ha hS hlow
    go_enter Tryz.func26, Tryz.ntmps26
    go_wp2_with fail
    refine hn.mono ?_
    rintro e w' ⟨rfl, rfl⟩
    clear hn
    go_wp2_with fail
    refine hau.mono ?_
    rintro e w1 ⟨rfl, hm1⟩
    have h1 := H0.out.more hm1
    have c3' := (h1.cell 0 rfl 3 (v := .pointer (some ⟨hp, 0, none⟩)) rfl).1
    have hlv := h1.hLive 2 1 rfl rfl
    clear hau c3 hm1 h1 H0
    go_wp2_with fail
    refine hlv.mono ?_
    rintro e w2 ⟨v, rfl, h2⟩
    obtain ⟨sl, cl, rfl⟩ := h2.form 4 rfl
    obtain ⟨L, hL⟩ : ∃ L, S.live.length = L := ⟨_, rfl⟩
    have HR : Hid (AuRel F w b m la s hp t S T sl L cl w2) := by
      have := h2
      unfold intsAt at this
      rw [hL] at this
      exact this
    rw [hL] at hlen ⊢
    have HL := Lib.hid hL
    clear hlv h2 c3' hL
    go_wp2_with fail
    go_loopw [30] (fun i wr => ∃ j : Nat, i = .int .i64 j ∧ j ≤ L ∧ (∀ (n : Nat) a, n < j → S.live[n]? = some a → okRec S T a = true) ∧ AuRel F w b m la s hp t S T sl L cl wr) (fun i _ => L - (RowKit.intOf i).toNat)
    case atStart => exact ⟨0, rfl, Nat.zero_le _, fun n a h => absurd h (Nat.not_lt_zero _), HR.out⟩
    case round =>
      obtain ⟨j, rfl, hj, hall, h⟩ := hrel
      clear HR
      by_cases hlt : j < L
      · obtain ⟨a, hja⟩ : ∃ a, S.live[j]? = some a := ⟨_, List.getElem?_eq_getElem (by rw [HL.out]; exact hlt)⟩
        have HJ := Lib.hid hja
        obtain ⟨g, rfl, cx, _⟩ := Sep.item h 4 rfl (o := j) (x := .int .i64 a) (by rw [List.getElem?_map, hja]; rfl)
        have hm := List.mem_of_getElem? hja
        rw [HP.out.live] at hm
        obtain ⟨x, hx, hxa⟩ := List.mem_map.1 hm
        obtain ⟨e1, e2, e3⟩ := blk_reads HP.out hx
        have hbr := HP.out.blk_range hx
        rw [hxa] at e1 e2 e3
        have had : 0 ≤ a ∧ a ≤ 67108864 := by omega
        have hw1 := HS.out.words x.1
        have hn1 := HS.out.words (x.1 + 1)
        have hok : okRec S T a = true ↔ T.at' (S.wd x.1) = (a, 0) ∧ S.wd (x.1 + 1) ≤ 3998 ∧ ((x.2 : Nat) : Int) = ((Slb.roomOf (S.wd (x.1 + 1) + 2) : Nat) : Int) := by rw [okRec_iff, e1, e2, e3]
        obtain ⟨rm, hrm⟩ : ∃ r : Int, ((x.2 : Nat) : Int) = r := ⟨_, rfl⟩
        rw [hrm] at e3 hok
        generalize S.wd x.1 = wv at *
        generalize S.wd (x.1 + 1) = nv at *
        have hrd1 := Sep.sRead h 1 rfl a e1
        have hrd2 := Sep.sRead h 1 rfl (a + 1) e2
        have hft : ∀ n : Nat, n ≤ 3998 → _ := fun n hn => stfits_any (Sep.left (Ps := [_, _, _, _]) h) a had e3 n hn
        have HFT := Lib.hid hft
        have HOK := Lib.hid hok
        have HALL := Lib.hid hall
        have c2 := (Sep.cell h 0 rfl 2 (v := .pointer (some ⟨s, 0, none⟩)) rfl).1
        have c4 := (Sep.cell h 0 rfl 4 (v := .pointer (some ⟨t, 0, none⟩)) rfl).1
        have ea : IntKind.i64.wrap (a + 1) = a + 1 := by rw [IntKind.wrap_i64]; omega
        have HB := Lib.hid h
        have HB4 := Lib.hid (Sep.left (Ps := [_, _, _, _]) h)
        have hlt' : (j : Int) < (L : Int) := by omega
        obtain ⟨y, er, hat⟩ : ∃ y er, T.at' wv = (y, er) := ⟨_, _, rfl⟩
        have her := at_07 T wv
        rw [hat] at her hok
        have hta := Sep.tAt h 3 rfl wv hw1.1 hw1.2 hat
        have HAT := Lib.hid hat
        have HK1 : Hid (j + 1 ≤ L ∧ L - (j + 1) < L - j) := by exact Lib.hid ⟨by omega, by omega⟩
        clear h hja hm hx hxa hbr hrm e1 e2 e3 hall hlt hat hft hw1
        dsimp only at her
        rcases her with rfl | rfl
        · by_cases hya : y = a
          · subst hya
            have dya : (y != y) = false := bneF rfl
            by_cases hnl : nv ≤ 3998
            · have d2 : decide ((3998 : Int) < nv) = false := ltF (by omega)
              obtain ⟨n, rfl⟩ := Int.eq_ofNat_of_zero_le hn1.1
              have e2 : IntKind.i64.wrap (n : Int) = (n : Int) := by rw [IntKind.wrap_i64]; omega
              have hf := HFT.out n (by omega)
              obtain ⟨bv, hbv⟩ : ∃ bv, decide (rm = ((Slb.roomOf ((n : Int) + 2) : Nat) : Int)) = bv := ⟨_, rfl⟩
              rw [hbv] at hf
              have HBV : Hid (bv = true ↔ okRec S T y = true) := Lib.hid (by rw [hok, ← hbv, decide_eq_true_iff]; exact ⟨fun h => ⟨rfl, hnl, h⟩, fun h => h.2.2⟩)
              clear hnl hok hbv
              go_wp2_with fail
              refine hrd1.mono ?_
              rintro e w' ⟨rfl, rfl⟩
              clear hrd1
              go_wp2_with fail
              refine hrd2.mono ?_
              rintro e w' ⟨rfl, rfl⟩
              clear hrd2
              go_wp2_with fail
              refine hta.mono ?_
              rintro e w' ⟨rfl, rfl⟩
              clear hta
              go_wp2_with fail
              refine hf.mono ?_
              rintro e w5 ⟨rfl, hm5⟩
              have H5 : Hid (AuRel F w b m la s hp t S T (some ⟨g, 0, none⟩) L cl w5) := Sep.more HB.out hm5
              have H54 := Lib.hid (Sep.more HB4.out hm5)
              clear hf hm5 HB c2 c4 cx
              cases bv with
              | true =>
                have HN : Hid (∀ (n : Nat) a, n < j + 1 → S.live[n]? = some a → okRec S T a = true) := Lib.hid fun n a hn ha => by
                  by_cases e : n = j
                  · subst e
                    rw [HJ.out] at ha
                    cases ha
                    exact HBV.out.1 rfl
                  · exact HALL.out n a (by omega) ha
                go_wp2
                go_roundw
                case rel => exact ⟨j + 1, by go_num, HK1.out.1, HN.out, H5.out⟩
                case measure => have := HK1.out.2; simp [RowKit.intOf]; omega
              | false =>
                have HQ : Hid (stAudit S T = 8) := Lib.hid (stAudit_bad HA.out HJ.out (Bool.eq_false_iff.2 fun h => by have := HBV.out.2 h; cases this))
                go_wp2_with fail
                go_ret
                exact ⟨by rw [HQ.out]; rfl, H54.out⟩
            · have d2 : decide ((3998 : Int) < nv) = true := ltT (by omega)
              have HBD : Hid (okRec S T y = false) := Lib.hid (Bool.eq_false_iff.2 fun h => hnl (HOK.out.1 h).2.1)
              clear hnl hok
              go_wp2_with fail
              refine hrd1.mono ?_
              rintro e w' ⟨rfl, rfl⟩
              clear hrd1
              go_wp2_with fail
              refine hrd2.mono ?_
              rintro e w' ⟨rfl, rfl⟩
              clear hrd2
              go_wp2_with fail
              refine hta.mono ?_
              rintro e w' ⟨rfl, rfl⟩
              clear hta
              have HQ : Hid (stAudit S T = 8) := Lib.hid (stAudit_bad HA.out HJ.out HBD.out)
              go_wp2_with fail
              go_ret
              exact ⟨by rw [HQ.out]; rfl, HB4.out⟩
          · have dya : (y != a) = true := bneT hya
            have HBD : Hid (okRec S T a = false) := Lib.hid (Bool.eq_false_iff.2 fun h => by
              have := (HOK.out.1 h).1
              rw [HAT.out] at this
              simp at this
              exact hya this)
            clear hok
            go_wp2_with fail
            refine hrd1.mono ?_
            rintro e w' ⟨rfl, rfl⟩
            clear hrd1
            go_wp2_with fail
            refine hrd2.mono ?_
            rintro e w' ⟨rfl, rfl⟩
            clear hrd2
            go_wp2_with fail
            refine hta.mono ?_
            rintro e w' ⟨rfl, rfl⟩
            clear hta
            have HQ : Hid (stAudit S T = 8) := Lib.hid (stAudit_bad HA.out HJ.out HBD.out)
            go_wp2_with fail
            go_ret
            exact ⟨by rw [HQ.out]; rfl, HB4.out⟩
        · have HBD : Hid (okRec S T a = false) := Lib.hid (Bool.eq_false_iff.2 fun h => by
            have := (HOK.out.1 h).1
            rw [HAT.out] at this
            simp at this)
          clear hok
          go_wp2_with fail
          refine hrd1.mono ?_
          rintro e w' ⟨rfl, rfl⟩
          clear hrd1
          go_wp2_with fail
          refine hrd2.mono ?_
          rintro e w' ⟨rfl, rfl⟩
          clear hrd2
          go_wp2_with fail
          refine hta.mono ?_
          rintro e w' ⟨rfl, rfl⟩
          clear hta
          have HQ : Hid (stAudit S T = 8) := Lib.hid (stAudit_bad HA.out HJ.out HBD.out)
          go_wp2_with fail
          go_ret
          exact ⟨by rw [HQ.out]; rfl, HB4.out⟩
      · obtain rfl : j = L := by omega
        have htl := Sep.tLive h 3 rfl
        obtain ⟨tl, htl0⟩ : ∃ n, T.live.length = n := ⟨_, rfl⟩
        rw [htl0] at htl
        have c4 := (Sep.cell h 0 rfl 4 (v := .pointer (some ⟨t, 0, none⟩)) rfl).1
        have HALL := Lib.hid hall
        have HTL := Lib.hid htl0
        clear h hlt hall htl0
        by_cases hlq : j = tl
        · subst hlq
          have HQ : Hid (stAudit S T = 0) := Lib.hid (stAudit_ok HA.out (by rw [HL.out, HTL.out]) fun n a hn => HALL.out n a (by have := (List.getElem?_eq_some_iff.1 hn).1; rw [HL.out] at this; exact this) hn)
          have d : ((j : Int) != (j : Int)) = false := bneF rfl
          go_wp2_with fail
          refine htl.mono ?_
          rintro e w6 ⟨sa, ca, rfl, h6⟩
          have H6 : Hid (Sep F w w6 [stAt b m la s hp t, slabR s S, hpAt hp s, tabR t T]) := Sep.left (Ps := [_, _, _, _]) h6
          clear htl h6 c4
          go_wp2
          go_ret
          exact ⟨by rw [HQ.out]; rfl, H6.out⟩
        · have HQ : Hid (stAudit S T = 8) := Lib.hid (stAudit_len HA.out (by rw [HL.out, HTL.out]; exact hlq))
          have d : ((j : Int) != (tl : Int)) = true := bneT (by omega)
          go_wp2_with fail
          refine htl.mono ?_
          rintro e w6 ⟨sa, ca, rfl, h6⟩
          have H6 : Hid (Sep F w w6 [stAt b m la s hp t, slabR s S, hpAt hp s, tabR t T]) := Sep.left (Ps := [_, _, _, _]) h6
          clear htl h6 c4
          go_wp2
          go_ret
          exact ⟨by rw [HQ.out]; rfl, H6.out⟩
  · rw [ha] at hau
    have HQ : Hid (stAudit S T = 8) := Lib.hid (by unfold stAudit; rw [if_neg (by omega), ha])
    clear h ha hS hlow
    go_enter Tryz.func26, Tryz.ntmps26
    go_wp2_with fail
    refine hn.mono ?_
    rintro e w' ⟨rfl, rfl⟩
    clear hn
    go_wp2_with fail
    refine hau.mono ?_
    rintro e w1 ⟨rfl, hm1⟩
    have H1 := Lib.hid (H0.out.more hm1)
    clear hau c3 hm1 H0
    go_wp2
    go_ret
    exact ⟨by rw [HQ.out]; rfl, H1.out⟩
end
theorem staudit_any {F0 : Nat → Prop} {w0 : World} {Ps : List Res} {b : Nat} {m la : Int} {S : Slb} {T : HTbl} (h : Sep F0 w0 w Ps) (i : Nat) (hi : Ps[i]? = some (stR b m la S T)) (hlow : ∀ k ∈ S.pg, k < 1048576) :
    Calls Tryz.prog 26 #[.pointer (some ⟨b, 0, none⟩)] w fun e w' => e = .returned (.int .i64 (stAudit S T)) ∧ Sep F0 w0 w' (Ps.set i (stR b m la S T)) := by
  refine h.lift i hi fun F h1 => ?_
  obtain ⟨s, hp, t, h2⟩ := st_open h1
  exact (staudit_anyIn h2 hlow).mono fun e w' ⟨he, h3⟩ => ⟨he, st_shut h3⟩
end Go.Proofs.YtmdnofojecncgaaGreatDoor
