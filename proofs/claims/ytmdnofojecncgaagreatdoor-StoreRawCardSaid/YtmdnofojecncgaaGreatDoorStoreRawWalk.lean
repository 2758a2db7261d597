/- StoreRaw, walked. Condition: the table of math/bits holds what its initialiser lays. -/
import Derived.Test.YtmdnofojecncgaaGreatDoorLaw06
import Derived.Test.YtmdnofojecncgaaGreatDoorArgs
set_option linter.unusedVariables false
set_option linter.unusedSimpArgs false
set_option maxRecDepth 100000
namespace Go.Proofs.YtmdnofojecncgaaGreatDoor
open Go Go.RowKit

namespace HTbl
theorem raw_norm (T : HTbl) : T.norm.raw = T.raw := by
  unfold raw norm
  rw [List.map_map]
  apply List.map_congr_left
  intro s _
  show toR (nS s) = toR s
  unfold toR nS
  by_cases h : s.is = 1
  · rw [if_pos h]
  · rw [if_neg h]; dsimp only; rw [if_neg h, if_neg h]
theorem Twin.raw {T U : HTbl} (h : Twin T U) : U.raw = T.raw := by rw [← raw_norm T, ← raw_norm U, h]
theorem Twin.norm_ (T : HTbl) : Twin T T.norm := (norm_norm T).symm
theorem raw_len (T : HTbl) : T.raw.length = T.l.length := by unfold raw; rw [List.length_map]
end HTbl

/-- What stands behind some calls. -/
def SwRel (w : World) (b : Nat) (q m la : Int) (i : Nat) (lv : Value) (wr : World) : Prop :=
  ∃ (S : Slb) (T : HTbl) (H : List Ent) (R : List Rc) (Qs : List Res) (j : Nat), (StInv S T H R ∧ S.quota = q ∧ T.most = m ∧ T.last = la ∧ R.length ≤ i) ∧ (∃ sa cap, lv = .slice sa R.length cap) ∧ Sep No w wr (stR b m la S T :: Qs) ∧ (j ≠ 0 ∧ (stR b m la S T :: Qs)[j]? = some (hdRow lv R.length (R.map (·.h))))
/-- What stands behind some calls of two stores. -/
def SwRel2 (w : World) (b b2 : Nat) (q m la : Int) (i : Nat) (lv mv : Value) (wr : World) : Prop :=
  ∃ (S : Slb) (T U : HTbl) (H : List Ent) (R : List Rc) (Qs : List Res) (j k : Nat), (StInv S T H R ∧ StInv S U H R ∧ HTbl.Twin T U ∧ R.length ≤ i) ∧ ((∃ sa cap, lv = .slice sa R.length cap) ∧ ∃ sa cap, mv = .slice sa R.length cap) ∧ Sep No w wr (stR b m la S T :: stR b2 m la S U :: Qs) ∧
    ((j ≠ 0 ∧ j ≠ 1) ∧ (stR b m la S T :: stR b2 m la S U :: Qs)[j]? = some (hdRow lv R.length (R.map (·.h)))) ∧ ((k ≠ 0 ∧ k ≠ 1) ∧ (stR b m la S T :: stR b2 m la S U :: Qs)[k]? = some (hdRow mv R.length (R.map (·.h))))

theorem SwRel2.start {w wr : World} {b b2 : Nat} {q m la : Int} {i : Nat} {lv : Value} {S : Slb} {T U : HTbl} {H : List Ent} {R : List Rc} {Qs : List Res} {j : Nat} (I : StInv S T H R) (I2 : StInv S U H R) (tw : HTbl.Twin T U) (hR : R.length ≤ i) (hl : ∃ sa cap, lv = .slice sa R.length cap)
    (hj0 : j ≠ 0) (hj : (stR b m la S T :: Qs)[j]? = some (hdRow lv R.length (R.map (·.h)))) (h : Sep No w wr ((stR b m la S T :: Qs) ++ [stR b2 m la S U])) : SwRel2 w b b2 q m la i lv lv wr := by
  have hl2 := (List.getElem?_eq_some_iff.1 hj).1
  have h2 : Sep No w wr (stR b m la S T :: stR b2 m la S U :: Qs) := by
    refine h.pick (fun k => if k = 0 then 0 else if k = 1 then Qs.length + 1 else k - 1) (fun k hk => ?_) (fun x y hx hy hxy e => ?_)
    · match k with
      | 0 => rfl
      | 1 =>
        rw [if_neg (by omega), if_pos rfl, List.getElem?_append_right (by simp)]
        simp
      | k + 2 =>
        simp only [List.length_cons] at hk
        rw [if_neg (by omega), if_neg (by omega), List.getElem?_append_left (by simp; omega)]
        rfl
    · simp only [List.length_cons] at hx hy
      split at e <;> split at e <;> (repeat' split at e) <;> omega
  have hj1 : (stR b m la S T :: stR b2 m la S U :: Qs)[j + 1]? = some (hdRow lv R.length (R.map (·.h))) := by
    match j, hj0 with
    | j + 1, _ => exact hj
  exact ⟨S, T, U, H, R, Qs, j + 1, j + 1, ⟨I, I2, tw, hR⟩, ⟨hl, hl⟩, h2, ⟨⟨by omega, by omega⟩, hj1⟩, ⟨by omega, by omega⟩, hj1⟩


set_option maxRecDepth 100000 in
set_option maxHeartbeats 8000000 in
theorem sraw_in (q m la : Int) {sa : Option Addr} {len cap : Nat} {z : List (List Int)} {sb : Option Addr} {len2 cap2 : Nat} {z2 : List (List Int)} (w : World) (hq : 0 ≤ q ∧ q ≤ 4000) (hm : 1 ≤ m ∧ m ≤ 1000) (hla : 1 ≤ la ∧ la ≤ 4294967295)
    (R1 : Recs w sa len [some .i64, some .i64, some .i64, some .u64] z) (hlen : len ≤ 40) (R2 : Recs w sb len2 [some .i64, some .i64, some .i64, some .u64] z2) (hlen2 : len2 ≤ 40) (hT : Tab64 w) :
    Calls Tryz.prog 7 #[.int .i64 q, .int .i64 m, .int .u32 la, .slice sa len cap, .slice sb len2 cap2] w fun e w' => e = .returned (.bool true) ∧ Below w.heap.size w w' := by
  have d1 : decide (q < 0) = false := ltF (by omega)
  have d2 : decide (4000 < q) = false := ltF (by omega)
  have d3 : decide (m < 1) = false := ltF (by omega)
  have d4 : decide (1000 < m) = false := ltF (by omega)
  have d5 : decide (la < 1) = false := ltF (by omega)
  have d6 : decide ((40 : Int) < (len : Int)) = false := ltF (by omega)
  have d7 : decide ((40 : Int) < (len2 : Int)) = false := ltF (by omega)
  have HR := Lib.hid (And.intro R1 hlen)
  have HR2 := Lib.hid (And.intro R2 hlen2)
  have HT := Lib.hid hT
  have hc1 := stnew_call (Sep.nil w) q m la hq.1 (by omega) hm.1 (by omega) hla.1 hla.2
  have hI0 := Lib.hid (StInv.start (q := q) (m := m) (l := la) hq.1 (by omega) hm.1 (by omega) hla.1 hla.2)
  have HQ := Lib.hid (And.intro hq (And.intro hm hla))
  clear R1 R2 hT hq hm hla
  go_enter Tryz.func7, Tryz.ntmps7
  go_wp2_with fail
  refine hc1.mono ?_
  rintro e w1 ⟨b, rfl, h1⟩
  have H1 : Hid (SwRel w b q m la 0 (.slice none 0 0) w1) := Lib.hid ⟨_, _, _, _, [hdRow (.slice none 0 0) 0 []], 1, ⟨hI0.out, rfl, rfl, rfl, Nat.le_refl _⟩, ⟨none, 0, rfl⟩, h1.pushNil 46 1, by omega, rfl⟩
  clear hc1 h1
  go_wp2_with fail
  go_loopw [13, 14] (fun lv iv wr => ∃ j : Nat, iv = .int .i64 j ∧ j ≤ len ∧ SwRel w b q m la j lv wr) (fun _ iv _ => len - (RowKit.intOf iv).toNat)
  case atStart => exact ⟨0, rfl, Nat.zero_le _, H1.out⟩
  case round =>
    obtain ⟨j, rfl, hj, S, T, H, R, Qs, jj, ⟨I, hSq, hTm, hTl, hRj⟩, ⟨sl, cl, rfl⟩, h, hj0, hjj⟩ := hrel
    clear H1
    have hmw := h.mod
    by_cases hlt : j < len
    · skip
      have hzj : z[j]? = some (z[j]'(by rw [HR.out.1.count]; exact hlt)) := List.getElem?_eq_getElem _
      obtain ⟨hrl, hro⟩ := HR.out.1.ok _ (List.mem_of_getElem? hzj)
      obtain ⟨bb, off, rfl, hb, hc⟩ := HR.out.1.cells (by omega)
      generalize z[j]'(by rw [HR.out.1.count]; exact hlt) = r at *
      match r, hrl with
      | [d, nn, kk, x], _ =>
      have c0 := hc j _ hzj 0 _ d rfl rfl
      have c1 := hc j _ hzj 1 _ nn rfl rfl
      have c2 := hc j _ hzj 2 _ kk rfl rfl
      have c3 := hc j _ hzj 3 _ x rfl rfl
      have hd := bounds_i64 (hro 0 _ d rfl rfl)
      have hn := bounds_i64 (hro 1 _ nn rfl rfl)
      have hk := bounds_i64 (hro 2 _ kk rfl rfl)
      have hx := bounds_u64 (hro 3 _ x rfl rfl)
      simp only [List.length_cons, List.length_nil, Nat.add_zero, Nat.zero_add, Nat.reduceAdd, fv] at c0 c1 c2 c3
      have HCW := Lib.hid (And.intro c0 (And.intro c1 (And.intro c2 (And.intro c3 hb))))
      have c0 := hmw.cell c0 (fun x => x)
      have c1 := hmw.cell c1 (fun x => x)
      have c2 := hmw.cell c2 (fun x => x)
      have c3 := hmw.cell c3 (fun x => x)
      have hbw : bb < wr.heap.size := Nat.lt_of_lt_of_le hb hmw.size
      have hlt' : (j : Int) < (len : Int) := by omega
      have hx2 : 0 ≤ x ∧ x < 18446744073709551616 := ⟨hx.1, by omega⟩
      obtain ⟨a, S', T', H', R', D⟩ := SStep.ex (r := [d, nn, kk, x]) I hx2
      have hst := step06_call h 0 jj (Ne.symm hj0) rfl hjj rfl (by have := HR.out.2; omega) (HT.out.mod h.mod) I hd hn hk hx2 D
      have HD := Lib.hid (And.intro D (And.intro I (And.intro hSq (And.intro hTm (And.intro hTl hRj)))))
      have HK1 : Hid (j + 1 ≤ len ∧ len - (j + 1) < len - j) := by exact Lib.hid ⟨by omega, by omega⟩
      clear h hzj hro hc hb hjj I D hmw hlt
      go_wp2_with fail
      refine hst.mono ?_
      rintro e w3 ⟨sa', ca', Qs', j', rfl, h3, hj1, hj2⟩
      have H3 : Hid (SwRel w b q m la (j + 1) (.slice sa' R'.length ca') w3) := by
        obtain ⟨D, I, hSq, hTm, hTl, hRj⟩ := HD.out
        exact Lib.hid ⟨S', T', H', R', Qs ++ Qs', j', ⟨D.inv I, D.quo.trans hSq, D.ml.1.trans hTm, D.ml.2.trans hTl, by have := D.len; omega⟩, ⟨_, _, rfl⟩, h3, by simp only [List.length_cons] at hj1; omega, hj2⟩
      clear hst h3 hj2 c0 c1 c2 c3
      go_wp2_with fail
      go_roundw
      case rel => exact ⟨j + 1, by go_num, HK1.out.1, H3.out⟩
      case measure => have := HK1.out.2; simp [RowKit.intOf]; omega
    · obtain rfl : j = len := by omega
      have dI : decide ((j : Int) < (j : Int)) = false := ltF (by omega)
      subst hSq hTm hTl
      have hlow : ∀ k ∈ S.pg, k < 1048576 := I.rep.low
      have hr1 := straw_call h 0 rfl hlow
      have HI := Lib.hid (And.intro I (And.intro hRj (And.intro hj0 hjj)))
      clear h hmw hlt hj hjj I
      go_wp2_with fail
      refine hr1.mono ?_
      rintro e w3 ⟨pa, pc, za, zc, rfl, h3⟩
      have hok := HI.out.1.tok
      have hraw := HTbl.raw_ok hok
      have hQs : ((stR b T.most T.last S T :: Qs) ++ [pageR (.slice pa S.pg.length pc) S.pg.length S.wd S.pg, slotR (.slice za T.raw.length zc) T.raw.length T.raw]) = (stR b T.most T.last S T :: Qs) ++ [pageR (.slice pa S.pg.length pc) S.pg.length S.wd S.pg, slotR (.slice za T.raw.length zc) T.raw.length T.raw] := rfl
      have hPI : PagesIn w3 pa S.pg S.wd := PagesIn.row rfl (h3.row ((stR b T.most T.last S T :: Qs).length) (by rw [List.getElem?_append_right (Nat.le_refl _), Nat.sub_self]; rfl))
      have hSI : SlotsIn w3 za T.raw := SlotsIn.row (h3.row ((stR b T.most T.last S T :: Qs).length + 1) (by rw [List.getElem?_append_right (by omega), Nat.add_sub_cancel_left]; rfl))
      have hof := stof_call S.quota T.most T.last (pc := pc) (zc := zc) w3 (show Slb.Ok ⟨S.quota, S.pg, S.wd⟩ from HI.out.1.rep.ok) hlow rfl rfl hok.most1 hok.most2 hok.last1 hok.last2 (by rw [HTbl.raw_len]; exact hok.len) hPI hSI (fun r hr => by
        have h1 := HTbl.rOk_iff.1 (hraw r hr).1
        have h2 := (hraw r hr).2
        omega)
      have H3 := Lib.hid (Sep.left h3)
      clear hr1 h3 hPI hSI hraw hQs
      go_wp2_with fail
      refine hof.mono ?_
      rintro e w4 h4
      have hUn : HTbl.ofRaw T.most T.last T.raw = T.norm := HTbl.ofRaw_raw hok
      have hIU : StInv S T.norm H R := HI.out.1.twin (HTbl.norm_ok hok) (HTbl.Twin.norm_ T)
      rcases h4 with ⟨he, -, -⟩ | ⟨b2, hall, -, rfl, h4⟩
      · exfalso
        unfold ofErr at he
        rw [if_pos (fun r hr => (HTbl.raw_ok hok r hr).1), hUn] at he
        have := hIU.audit0
        rw [show (⟨S.quota, S.pg, S.wd⟩ : Slb) = S from rfl] at he
        omega
      · rw [hUn] at h4
        have h5 := H3.out.join h4
        have H5 : Hid (SwRel2 w b b2 S.quota T.most T.last (40 + 0) (.slice sl R.length cl) (.slice sl R.length cl) w4) := Lib.hid (SwRel2.start HI.out.1 hIU (HTbl.Twin.norm_ T) (by have := HI.out.2.1; have := HR.out.2; omega) ⟨_, _, rfl⟩ HI.out.2.2.1 HI.out.2.2.2 h5)
        clear hof h4 h5 hall H3 hIU hUn hok
        go_wp2_with fail
        go_loopw [13, 19, 20] (fun lv mv iv wr => ∃ i : Nat, iv = .int .i64 i ∧ i ≤ len2 ∧ SwRel2 w b b2 S.quota T.most T.last (40 + i) lv mv wr) (fun _ _ iv _ => len2 - (RowKit.intOf iv).toNat)
        case atStart => exact ⟨0, rfl, Nat.zero_le _, H5.out⟩
        case round =>
          obtain ⟨j, rfl, hj, S1, T1, U1, G1, R1, Q1, j1, k1, ⟨I, I2, tw, hRj⟩, ⟨⟨sl1, cl1, rfl⟩, ⟨sm1, cm1, rfl⟩⟩, h, ⟨⟨hj0, hj1⟩, hjj⟩, ⟨⟨hk0, hk1⟩, hkk⟩⟩ := hrel
          clear H5
          have hmw := h.mod
          by_cases hlt : j < len2
          · skip
            have hzj : z2[j]? = some (z2[j]'(by rw [HR2.out.1.count]; exact hlt)) := List.getElem?_eq_getElem _
            obtain ⟨hrl, hro⟩ := HR2.out.1.ok _ (List.mem_of_getElem? hzj)
            obtain ⟨bb, off, rfl, hb, hc⟩ := HR2.out.1.cells (by omega)
            generalize z2[j]'(by rw [HR2.out.1.count]; exact hlt) = r at *
            match r, hrl with
            | [d, nn, kk, x], _ =>
            have c0 := hc j _ hzj 0 _ d rfl rfl
            have c1 := hc j _ hzj 1 _ nn rfl rfl
            have c2 := hc j _ hzj 2 _ kk rfl rfl
            have c3 := hc j _ hzj 3 _ x rfl rfl
            have hd := bounds_i64 (hro 0 _ d rfl rfl)
            have hn := bounds_i64 (hro 1 _ nn rfl rfl)
            have hk := bounds_i64 (hro 2 _ kk rfl rfl)
            have hx := bounds_u64 (hro 3 _ x rfl rfl)
            simp only [List.length_cons, List.length_nil, Nat.add_zero, Nat.zero_add, Nat.reduceAdd, fv] at c0 c1 c2 c3
            have HCW := Lib.hid (And.intro c0 (And.intro c1 (And.intro c2 (And.intro c3 hb))))
            have c0 := hmw.cell c0 (fun x => x)
            have c1 := hmw.cell c1 (fun x => x)
            have c2 := hmw.cell c2 (fun x => x)
            have c3 := hmw.cell c3 (fun x => x)
            have hbw : bb < wr.heap.size := Nat.lt_of_lt_of_le hb hmw.size
            have hlt' : (j : Int) < (len2 : Int) := by omega
            have hx2 : 0 ≤ x ∧ x < 18446744073709551616 := ⟨hx.1, by omega⟩
            obtain ⟨a, S', T', H', R', D⟩ := SStep.ex (r := [d, nn, kk, x]) I hx2
            obtain ⟨a2, S2, U', H2, R2, D2⟩ := SStep.ex (r := [d, nn, kk, x]) I2 hx2
            obtain ⟨rfl, rfl, rfl, tw'⟩ := D.twin I tw D2
            obtain rfl : H' = H2 := (D.inv I).heads_eq (D2.inv I2)
            have hst := step06_call h 0 j1 (Ne.symm hj0) rfl hjj rfl (by have := HR2.out.2; omega) (HT.out.mod h.mod) I hd hn hk hx2 D
            have HD := Lib.hid (And.intro D (And.intro D2 (And.intro I (And.intro I2 (And.intro tw' hRj)))))
            have HK := Lib.hid (And.intro (And.intro hj0 hj1) (And.intro (And.intro hk0 hk1) hkk))
            have HK1 : Hid (j + 1 ≤ len2 ∧ len2 - (j + 1) < len2 - j) := by exact Lib.hid ⟨by omega, by omega⟩
            have hR80 : R1.length ≤ 100 := by have := HR2.out.2; omega
            clear h hzj hro hc hb hjj hkk I I2 D D2 hmw hlt tw tw' hj0 hj1 hk0 hk1
            go_wp2_with fail
            refine hst.mono ?_
            rintro e w5 ⟨sa', ca', Qs', j', rfl, h3, hj1', hj2'⟩
            have h3 : Sep No w w5 (stR b T.most T.last S2 T' :: stR b2 T.most T.last S1 U1 :: (Q1 ++ Qs')) := h3
            have hj2' : (stR b T.most T.last S2 T' :: stR b2 T.most T.last S1 U1 :: (Q1 ++ Qs'))[j']? = some (hdRow (.slice sa' R2.length ca') R2.length (R2.map (·.h))) := hj2'
            have hkk' : (stR b T.most T.last S2 T' :: stR b2 T.most T.last S1 U1 :: (Q1 ++ Qs'))[k1]? = some (hdRow (.slice sm1 R1.length cm1) R1.length (R1.map (·.h))) := app_j (Ps := stR b T.most T.last S1 T1 :: stR b2 T.most T.last S1 U1 :: Q1) (i := 0) (X := stR b T.most T.last S2 T') (tl := Qs') (Ne.symm HK.out.2.1.1) HK.out.2.2
            have hst2 := step06_call h3 1 k1 (Ne.symm HK.out.2.1.2) rfl hkk' rfl hR80 (HT.out.mod h3.mod) HD.out.2.2.2.1 hd hn hk hx2 HD.out.2.1
            have c0 := h3.mod.cell HCW.out.1 (fun x => x)
            have c1 := h3.mod.cell HCW.out.2.1 (fun x => x)
            have c2 := h3.mod.cell HCW.out.2.2.1 (fun x => x)
            have c3 := h3.mod.cell HCW.out.2.2.2.1 (fun x => x)
            have hbw := Nat.lt_of_lt_of_le HCW.out.2.2.2.2 h3.mod.size
            have HJ := Lib.hid (And.intro hj1' hj2')
            clear hst h3 hj1' hj2' hkk'
            go_wp2_with fail
            refine hst2.mono ?_
            rintro e w6 ⟨sb', cb', Qs2, k', rfl, h4, hk1', hk2'⟩
            have hj3 : ((stR b T.most T.last S2 T' :: stR b2 T.most T.last S1 U1 :: (Q1 ++ Qs')).set 1 (stR b2 T.most T.last S2 U') ++ Qs2)[j']? = some (hdRow (.slice sa' R2.length ca') R2.length (R2.map (·.h))) := app_j (by have h9 := HJ.out.1; have h8 := HK.out.1; simp only [List.length_cons] at h9; omega) HJ.out.2
            have h5 := h4
            have h5 : Sep No w w6 (stR b T.most T.last S2 T' :: stR b2 T.most T.last S2 U' :: (Q1 ++ Qs' ++ Qs2)) := h5
            have HJ3 := Lib.hid (And.intro hj3 (And.intro hk1' hk2'))
            have da : (a2 != a2) = false := bneF rfl
            have dR : ((R2.length : Int) != (R2.length : Int)) = false := bneF rfl
            have hw1 := stwords_call h5 0 rfl
            obtain ⟨p, hp⟩ : ∃ p, S2.pg.length = p := ⟨_, rfl⟩
            rw [hp] at hw1
            have HPp := Lib.hid hp
            have dp : (64 * (p : Int) != 64 * (p : Int)) = false := bneF rfl
            clear hst2 h4 h5 hj3 hk1' hk2' c0 c1 c2 c3 hp
            go_wp2_with fail
            refine hw1.mono ?_
            rintro e w7 ⟨rfl, h6⟩
            have h6 : Sep No w w7 (stR b T.most T.last S2 T' :: stR b2 T.most T.last S2 U' :: (Q1 ++ Qs' ++ Qs2)) := h6
            have hw2 := stwords_call h6 1 rfl
            rw [HPp.out] at hw2
            clear hw1 h6
            go_wp2_with fail
            refine hw2.mono ?_
            rintro e w8 ⟨rfl, h7⟩
            have h7 : Sep No w w8 (stR b T.most T.last S2 T' :: stR b2 T.most T.last S2 U' :: (Q1 ++ Qs' ++ Qs2)) := h7
            have H8 : Hid (SwRel2 w b b2 S.quota T.most T.last (40 + (j + 1)) (.slice sa' R2.length ca') (.slice sb' R2.length cb') w8) := by
              obtain ⟨D, D2, I, I2, tw', hRj⟩ := HD.out
              obtain ⟨hj3, hk1', hk2'⟩ := HJ3.out
              have hj1' := HJ.out.1
              simp only [List.length_cons] at hj1'
              simp only [List.length_cons] at hk1'
              have := HK.out
              exact Lib.hid ⟨S2, T', U', H', R2, Q1 ++ Qs' ++ Qs2, j', k', ⟨D.inv I, D2.inv I2, tw', by have := D.len; omega⟩, ⟨⟨_, _, rfl⟩, ⟨_, _, rfl⟩⟩, h7, ⟨⟨by omega, by omega⟩, hj3⟩, ⟨⟨by omega, by omega⟩, hk2'⟩⟩
            clear hw2 h7
            go_wp2_with fail
            go_roundw
            case rel => exact ⟨j + 1, by go_num, HK1.out.1, H8.out⟩
            case measure => have := HK1.out.2; simp [RowKit.intOf]; omega
          · obtain rfl : j = len2 := by omega
            have dI2 : decide ((j : Int) < (j : Int)) = false := ltF (by omega)
            have hr1 := straw_call h 0 rfl I.rep.low
            have HI3 := Lib.hid (And.intro I (And.intro I2 tw))
            have hn4 : S1.pg.length ≤ 4096 := by have := I.rep.ok.fit; have := I.rep.ok.q1; omega
            have hk6 : T1.raw.length ≤ 65536 := by rw [HTbl.raw_len]; have := I.tok.len; have := I.tok.most2; omega
            clear h hmw hlt hj hjj hkk I I2 tw
            go_wp2_with fail
            refine hr1.mono ?_
            rintro e w5 ⟨pa5, pc5, za5, zc5, rfl, h5⟩
            have h5 : Sep No w w5 (stR b T.most T.last S1 T1 :: stR b2 T.most T.last S1 U1 :: (Q1 ++ [pageR (.slice pa5 S1.pg.length pc5) S1.pg.length S1.wd S1.pg, slotR (.slice za5 T1.raw.length zc5) T1.raw.length T1.raw])) := h5
            have hr2 := straw_call h5 1 rfl HI3.out.1.rep.low
            rw [HI3.out.2.2.raw] at hr2
            clear hr1 h5
            go_wp2_with fail
            refine hr2.mono ?_
            rintro e w6 ⟨pa6, pc6, za6, zc6, rfl, h6⟩
            have h6 : Sep No w w6 ((stR b T.most T.last S1 T1 :: stR b2 T.most T.last S1 U1 :: Q1) ++ [pageR (.slice pa5 S1.pg.length pc5) S1.pg.length S1.wd S1.pg, slotR (.slice za5 T1.raw.length zc5) T1.raw.length T1.raw, pageR (.slice pa6 S1.pg.length pc6) S1.pg.length S1.wd S1.pg, slotR (.slice za6 T1.raw.length zc6) T1.raw.length T1.raw]) := by simpa using h6
            have e0 : (stR b T.most T.last S1 T1 :: stR b2 T.most T.last S1 U1 :: Q1).length ≤ (stR b T.most T.last S1 T1 :: stR b2 T.most T.last S1 U1 :: Q1).length := Nat.le_refl _
            have hP1 : PagesIn w6 pa5 S1.pg S1.wd := PagesIn.row rfl (h6.row ((stR b T.most T.last S1 T1 :: stR b2 T.most T.last S1 U1 :: Q1).length + 0) (by rw [List.getElem?_append_right (by omega), Nat.add_sub_cancel_left]; rfl))
            have hS1 : SlotsIn w6 za5 T1.raw := SlotsIn.row (h6.row ((stR b T.most T.last S1 T1 :: stR b2 T.most T.last S1 U1 :: Q1).length + 1) (by rw [List.getElem?_append_right (by omega), Nat.add_sub_cancel_left]; rfl))
            have hP2 : PagesIn w6 pa6 S1.pg S1.wd := PagesIn.row rfl (h6.row ((stR b T.most T.last S1 T1 :: stR b2 T.most T.last S1 U1 :: Q1).length + 2) (by rw [List.getElem?_append_right (by omega), Nat.add_sub_cancel_left]; rfl))
            have hS2 : SlotsIn w6 za6 T1.raw := SlotsIn.row (h6.row ((stR b T.most T.last S1 T1 :: stR b2 T.most T.last S1 U1 :: Q1).length + 3) (by rw [List.getElem?_append_right (by omega), Nat.add_sub_cancel_left]; rfl))
            have hal := alike_call S1.quota T.most T.last (pc := pc5) (pd := pc6) (zc := zc5) (zd := zc6) w6 rfl rfl hn4 hk6 hP1 hP2 hS1 hS2
            have H6 := Lib.hid (Sep.left h6)
            clear hr2 h6 hP1 hP2 hS1 hS2 e0
            go_wp2_with fail
            refine hal.mono ?_
            rintro e w7 ⟨rfl, hm7⟩
            have h7 := H6.out.more hm7
            have hau := staudit_call h7 1 rfl HI3.out.2.1
            clear hal hm7 h7 H6
            go_wp2_with fail
            refine hau.mono ?_
            rintro e w8 ⟨rfl, h8⟩
            have HM := Lib.hid h8.mod
            clear hau h8
            go_wp2_with fail
            have ha := awake06_call w8 (HT.out.mod HM.out)
            go_wp2_with fail
            refine ha.mono ?_
            rintro e w9 ⟨rfl, hm9⟩
            have H9 := Lib.hid (HM.out.trans' hm9)
            clear ha hm9
            go_wp2
            go_ret
            exact ⟨rfl, H9.out.below _ (Nat.le_refl _) (fun _ _ x => x)⟩

theorem storeRaw_walk (q m la : Int) (sa : Option Addr) (len cap : Nat) (z : List (List Int)) (sb : Option Addr) (len2 cap2 : Nat) (z2 : List (List Int)) (w : World) (w0 : (Lit.int .i64 q).wf = true) (w1 : (Lit.int .i64 m).wf = true) (w2 : (Lit.int .u32 la).wf = true)
    (R : Recs w sa len [some .i64, some .i64, some .i64, some .u64] z) (R2 : Recs w sb len2 [some .i64, some .i64, some .i64, some .u64] z2) (hT : Tab64 w) :
    Calls Tryz.prog 7 #[.int .i64 q, .int .i64 m, .int .u32 la, .slice sa len cap, .slice sb len2 cap2] w fun e w' => e = .returned (.bool true) ∧ Below w.heap.size w w' := by
  have hlar : 0 ≤ la ∧ la ≤ 4294967295 := bounds_u32 w2
  by_cases hall : (0 ≤ q ∧ q ≤ 4000) ∧ (1 ≤ m ∧ m ≤ 1000) ∧ 1 ≤ la ∧ len ≤ 40 ∧ len2 ≤ 40
  · exact sraw_in q m la w hall.1 hall.2.1 ⟨hall.2.2.1, hlar.2⟩ R hall.2.2.2.1 R2 hall.2.2.2.2 hT
  · have HM := Lib.hid (Mod.refl No w)
    have HT := Lib.hid hT
    clear hT R R2
    by_cases h1 : q < 0
    · have d1 := ltT h1
      clear hall h1
      go_enter Tryz.func7, Tryz.ntmps7
      have ha := awake06_call w (HT.out.mod HM.out)
      go_wp2_with fail
      refine ha.mono ?_
      rintro e w9 ⟨rfl, hm9⟩
      have H9 := Lib.hid (HM.out.trans' hm9)
      clear ha hm9
      go_wp2
      go_ret
      exact ⟨rfl, H9.out.below _ (Nat.le_refl _) (fun _ _ x => x)⟩
    have d1 : decide (q < 0) = false := ltF (by omega)
    by_cases h2 : 4000 < q
    · have d2 := ltT h2
      clear hall h1 h2
      go_enter Tryz.func7, Tryz.ntmps7
      have ha := awake06_call w (HT.out.mod HM.out)
      go_wp2_with fail
      refine ha.mono ?_
      rintro e w9 ⟨rfl, hm9⟩
      have H9 := Lib.hid (HM.out.trans' hm9)
      clear ha hm9
      go_wp2
      go_ret
      exact ⟨rfl, H9.out.below _ (Nat.le_refl _) (fun _ _ x => x)⟩
    have d2 : decide (4000 < q) = false := ltF (by omega)
    by_cases h3 : m < 1
    · have d3 := ltT h3
      clear hall h1 h2 h3
      go_enter Tryz.func7, Tryz.ntmps7
      have ha := awake06_call w (HT.out.mod HM.out)
      go_wp2_with fail
      refine ha.mono ?_
      rintro e w9 ⟨rfl, hm9⟩
      have H9 := Lib.hid (HM.out.trans' hm9)
      clear ha hm9
      go_wp2
      go_ret
      exact ⟨rfl, H9.out.below _ (Nat.le_refl _) (fun _ _ x => x)⟩
    have d3 : decide (m < 1) = false := ltF (by omega)
    by_cases h4 : 1000 < m
    · have d4 := ltT h4
      clear hall h1 h2 h3 h4
      go_enter Tryz.func7, Tryz.ntmps7
      have ha := awake06_call w (HT.out.mod HM.out)
      go_wp2_with fail
      refine ha.mono ?_
      rintro e w9 ⟨rfl, hm9⟩
      have H9 := Lib.hid (HM.out.trans' hm9)
      clear ha hm9
      go_wp2
      go_ret
      exact ⟨rfl, H9.out.below _ (Nat.le_refl _) (fun _ _ x => x)⟩
    have d4 : decide (1000 < m) = false := ltF (by omega)
    by_cases h5 : la < 1
    · have d5 := ltT h5
      clear hall h1 h2 h3 h4 h5
      go_enter Tryz.func7, Tryz.ntmps7
      have ha := awake06_call w (HT.out.mod HM.out)
      go_wp2_with fail
      refine ha.mono ?_
      rintro e w9 ⟨rfl, hm9⟩
      have H9 := Lib.hid (HM.out.trans' hm9)
      clear ha hm9
      go_wp2
      go_ret
      exact ⟨rfl, H9.out.below _ (Nat.le_refl _) (fun _ _ x => x)⟩
    have d5 : decide (la < 1) = false := ltF (by omega)
    by_cases h6 : 40 < len
    · have d6 : decide ((40 : Int) < (len : Int)) = true := ltT (by omega)
      clear hall h1 h2 h3 h4 h5 h6
      go_enter Tryz.func7, Tryz.ntmps7
      have ha := awake06_call w (HT.out.mod HM.out)
      go_wp2_with fail
      refine ha.mono ?_
      rintro e w9 ⟨rfl, hm9⟩
      have H9 := Lib.hid (HM.out.trans' hm9)
      clear ha hm9
      go_wp2
      go_ret
      exact ⟨rfl, H9.out.below _ (Nat.le_refl _) (fun _ _ x => x)⟩
    have d6 : decide ((40 : Int) < (len : Int)) = false := ltF (by omega)
    have d7 : decide ((40 : Int) < (len2 : Int)) = true := ltT (by omega)
    clear hall h1 h2 h3 h4 h5 h6
    go_enter Tryz.func7, Tryz.ntmps7
    have ha := awake06_call w (HT.out.mod HM.out)
    go_wp2_with fail
    refine ha.mono ?_
    rintro e w9 ⟨rfl, hm9⟩
    have H9 := Lib.hid (HM.out.trans' hm9)
    clear ha hm9
    go_wp2
    go_ret
    exact ⟨rfl, H9.out.below _ (Nat.le_refl _) (fun _ _ x => x)⟩
end Go.Proofs.YtmdnofojecncgaaGreatDoor
