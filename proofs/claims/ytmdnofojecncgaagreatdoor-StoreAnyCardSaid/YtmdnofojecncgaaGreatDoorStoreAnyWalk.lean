/- StoreAny, walked. Condition: the table of math/bits holds what its initialiser lays. -/
import Derived.Test.YtmdnofojecncgaaGreatDoorLaw06
import Derived.Test.YtmdnofojecncgaaGreatDoorArgs
import Derived.StillTailTactics
import Derived.BigQuiet
import Derived.BigRegion
set_option linter.unusedVariables false
set_option linter.unusedSimpArgs false
set_option maxRecDepth 100000
namespace Go.Proofs.YtmdnofojecncgaaGreatDoor
open Go Go.RowKit

theorem HTbl.raw_len (T : HTbl) : T.raw.length = T.l.length := by unfold HTbl.raw; rw [List.length_map]

/-- What stands behind some calls. -/
def SwRel (w : World) (b : Nat) (q m la : Int) (i : Nat) (lv : Value) (wr : World) : Prop :=
  ∃ (S : Slb) (T : HTbl) (H : List Ent) (R : List Rc) (Qs : List Res) (j : Nat), (StInv S T H R ∧ S.quota = q ∧ T.most = m ∧ T.last = la ∧ R.length ≤ i) ∧ (∃ sa cap, lv = .slice sa R.length cap) ∧ Sep No w wr (stR b m la S T :: Qs) ∧ (j ≠ 0 ∧ (stR b m la S T :: Qs)[j]? = some (hdRow lv R.length (R.map (·.h))))

theorem prow_congr {wd wd' : Nat → Int} : ∀ {pg : List Nat}, (∀ k ∈ pg, pcell wd k = pcell wd' k) → prow wd pg = prow wd' pg
  | [], _ => rfl
  | k :: pg, h => by
    unfold prow
    rw [List.flatMap_cons, List.flatMap_cons, h k (List.mem_cons_self ..)]
    congr 1
    exact prow_congr (pg := pg) fun x hx => h x (List.mem_cons_of_mem _ hx)
theorem prow_upd {wd wd' : Nat → Int} {k o : Nat} {v : Value} (hne : ∀ x, x ≠ k → pcell wd' x = pcell wd x) (hk : pcell wd' k = (pcell wd k).set o v) (ho : o < 65) :
    ∀ (pg : List Nat), pg.Nodup → ∀ p : Nat, pg[p]? = some k → prow wd' pg = (prow wd pg).set (p * 65 + o) v
  | [], _, p, h => by simp at h
  | c :: pg, hd, 0, h => by
    simp at h
    subst h
    have hd := List.nodup_cons.1 hd
    have e := prow_congr (wd := wd') (wd' := wd) (pg := pg) fun x hx => hne x fun e => hd.1 (e ▸ hx)
    show pcell wd' c ++ prow wd' pg = (pcell wd c ++ prow wd pg).set _ v
    rw [e, hk, Nat.zero_mul, Nat.zero_add, List.set_append_left _ _ (by rw [pcell_len]; exact ho)]
  | c :: pg, hd, p + 1, h => by
    have hd := List.nodup_cons.1 hd
    have hp : pg[p]? = some k := by simpa using h
    have hc : c ≠ k := fun e => hd.1 (e ▸ List.mem_of_getElem? hp)
    have ih := prow_upd hne hk ho pg hd.2 p hp
    show pcell wd' c ++ prow wd' pg = (pcell wd c ++ prow wd pg).set _ v
    rw [ih, hne c hc, List.set_append_right _ _ (by rw [pcell_len]; omega), pcell_len]
    congr 2
    omega
/-- A page's word is another one. -/
theorem prow_set {wd : Nat → Int} {pg : List Nat} (hn : pg.Nodup) {p k j : Nat} (hk : pg[p]? = some k) (hj : j < 64) (v : Int) :
    prow (fun x => if x = 64 * k + j then v else wd x) pg = (prow wd pg).set (p * 65 + (1 + j)) (.int .u64 v) := by
  refine prow_upd (k := k) (fun x hx => ?_) ?_ (by omega) pg hn p hk
  · unfold pcell
    congr 1
    refine List.map_congr_left fun i hi => ?_
    have := List.mem_range.1 hi
    dsimp only
    rw [if_neg (by omega)]
  · unfold pcell
    rw [show 1 + j = j + 1 by omega, List.set_cons_succ]
    congr 1
    apply List.ext_getElem?
    intro i
    rw [List.getElem?_set]
    by_cases hij : j = i
    · subst hij
      simp [hj]
    · rw [if_neg hij, List.getElem?_map, List.getElem?_map]
      cases hr : (List.range 64)[i]? with
      | none => rfl
      | some y =>
        have hy : y = i := by
          have := List.getElem?_eq_some_iff.1 hr
          obtain ⟨_, h2⟩ := this
          simpa using h2.symm
        subst hy
        simp only [Option.map_some]
        rw [if_neg (by omega)]

theorem arow_set : ∀ (l : List RSlot) (i : Nat), i < l.length → ∀ s : RSlot, arow (l.set i s) = (((arow l).set (i * 3) (.bool s.op)).set (i * 3 + 1) (.int .u32 s.gen)).set (i * 3 + 2) (.int .i64 s.addr)
  | [], i, h, s => by simp at h
  | z :: l, 0, _, s => rfl
  | z :: l, i + 1, h, s => by
    have ih := arow_set l i (by simpa using h) s
    show acell z ++ arow (l.set i s) = (((acell z ++ arow l).set _ _).set _ _).set _ _
    rw [ih, List.set_append_right _ _ (by rw [acell_len]; omega), List.set_append_right _ _ (by rw [acell_len]; omega), List.set_append_right _ _ (by rw [acell_len]; omega), acell_len,
      show (i + 1) * 3 - 3 = i * 3 by omega, show (i + 1) * 3 + 1 - 3 = i * 3 + 1 by omega, show (i + 1) * 3 + 2 - 3 = i * 3 + 2 by omega]

/-- A counter, counted round. -/
theorem round_idx {p : Int} {k : Nat} (hk : 0 < k) : ∃ (u : Int) (j : Nat), p.tmod (k : Int) = u ∧ (u + (k : Int)).tmod (k : Int) = (j : Int) ∧ j < k ∧ -(k : Int) < u ∧ u < (k : Int) := by
  have h1 := Int.tmod_lt_of_pos p (show (0 : Int) < (k : Int) by omega)
  have h2 : -(k : Int) < p.tmod (k : Int) := by
    rcases Int.le_total 0 p with h | h
    · have := Int.tmod_nonneg (k : Int) h; omega
    · have e : p.tmod (k : Int) = -((-p).tmod (k : Int)) := by rw [Int.neg_tmod]; omega
      have := Int.tmod_lt_of_pos (-p) (show (0 : Int) < (k : Int) by omega)
      omega
  have h3 : 0 ≤ (p.tmod (k : Int) + (k : Int)).tmod (k : Int) := Int.tmod_nonneg _ (by omega)
  have h4 := Int.tmod_lt_of_pos (p.tmod (k : Int) + (k : Int)) (show (0 : Int) < (k : Int) by omega)
  exact ⟨_, ((p.tmod (k : Int) + (k : Int)).tmod (k : Int)).toNat, rfl, by omega, by omega, h2, h1⟩

theorem Sep.rgt {F0 : Nat → Prop} {w0 w : World} {Ps Qs : List Res} (h : Sep F0 w0 w (Ps ++ Qs)) : Sep F0 w0 w Qs :=
  h.pick (fun i => Ps.length + i) (fun i hi => by rw [List.getElem?_append_right (Nat.le_add_right _ _), Nat.add_sub_cancel_left]) (fun _ _ _ _ h => by omega)

theorem held5 {F0 : Nat → Prop} {w0 w : World} {Ps : List Res} {rb : Nat} {q m la : Int} {p z : Value} {t : TypeId} (h : Sep F0 w0 w (cellsAt rb (rawC q m la p z) t :: Ps)) : w.cell? ⟨rb, 0, none⟩ = some (.int .i64 q) ∧ w.cell? ⟨rb, 1, none⟩ = some (.int .i64 m) ∧ w.cell? ⟨rb, 2, none⟩ = some (.int .u32 la) ∧ w.cell? ⟨rb, 3, none⟩ = some p ∧ w.cell? ⟨rb, 4, none⟩ = some z :=
  ⟨(h.cell 0 rfl 0 (v := .int .i64 q) rfl).1, (h.cell 0 rfl 1 (v := .int .i64 m) rfl).1, (h.cell 0 rfl 2 (v := .int .u32 la) rfl).1, (h.cell 0 rfl 3 (v := p) rfl).1, (h.cell 0 rfl 4 (v := z) rfl).1⟩

/-- What stands behind some changes. -/
def RawSt (w : World) (rb : Nat) (q m la : Int) (wr : World) : Prop :=
  ∃ (S : Slb) (zs : List RSlot) (pa za : Option Addr) (pc zc : Nat), (S.Ok ∧ S.quota = q ∧ ∀ k ∈ S.pg, k < 1048576) ∧ ((zs.length : Int) ≤ m ∧ ∀ r ∈ zs, 0 ≤ r.gen ∧ -9223372036854775808 ≤ r.addr ∧ r.addr ≤ 9223372036854775807) ∧
    Sep No w wr [cellsAt rb (rawC q m la (.slice pa S.pg.length pc) (.slice za zs.length zc)) 87, pageR (.slice pa S.pg.length pc) S.pg.length S.wd S.pg, slotR (.slice za zs.length zc) zs.length zs]


set_option maxRecDepth 100000 in
set_option maxHeartbeats 8000000 in
theorem sany_in (q m : Int) {sa : Option Addr} {len cap : Nat} {z : List (List Int)} {sb : Option Addr} {len2 cap2 : Nat} {z2 : List (List Int)} (w : World) (hq : 0 ≤ q ∧ q ≤ 4000) (hm : 1 ≤ m ∧ m ≤ 100)
    (R1 : Recs w sa len [some .i64, some .i64, some .i64, some .u64] z) (hlen : len ≤ 30) (R2 : Recs w sb len2 [some .i64, some .i64, some .u64, none, some .u32, some .i64] z2) (hlen2 : len2 ≤ 5) (hT : Tab64 w) :
    Calls Tryz.prog 8 #[.int .i64 q, .int .i64 m, .slice sa len cap, .slice sb len2 cap2] w fun e w' => e = .returned (.bool true) ∧ Below w.heap.size w w' := by
  have d1 : decide (q < 0) = false := ltF (by omega)
  have d2 : decide (4000 < q) = false := ltF (by omega)
  have d3 : decide (m < 1) = false := ltF (by omega)
  have d4 : decide (100 < m) = false := ltF (by omega)
  have d6 : decide ((30 : Int) < (len : Int)) = false := ltF (by omega)
  have d7 : decide ((5 : Int) < (len2 : Int)) = false := ltF (by omega)
  have HR := Lib.hid (And.intro R1 hlen)
  have HR2 := Lib.hid (And.intro R2 hlen2)
  have HT := Lib.hid hT
  have hc1 := stnew_call (Sep.nil w) q m 5 hq.1 (by omega) hm.1 (by omega) (by omega) (by omega)
  have hI0 := Lib.hid (StInv.start (q := q) (m := m) (l := 5) hq.1 (by omega) hm.1 (by omega) (by omega) (by omega))
  have HQ := Lib.hid (And.intro hq hm)
  clear R1 R2 hT hq hm
  go_enter Tryz.func8, Tryz.ntmps8
  go_wp2_with fail
  refine hc1.mono ?_
  rintro e w1 ⟨b, rfl, h1⟩
  have H1 : Hid (SwRel w b q m 5 0 (.slice none 0 0) w1) := Lib.hid ⟨_, _, _, _, [hdRow (.slice none 0 0) 0 []], 1, ⟨hI0.out, rfl, rfl, rfl, Nat.le_refl _⟩, ⟨none, 0, rfl⟩, h1.pushNil 46 1, by omega, rfl⟩
  clear hc1 h1
  go_wp2_with fail
  go_loopw [11, 12] (fun lv iv wr => ∃ j : Nat, iv = .int .i64 j ∧ j ≤ len ∧ SwRel w b q m 5 j lv wr) (fun _ iv _ => len - (RowKit.intOf iv).toNat)
  case atStart => exact ⟨0, rfl, Nat.zero_le _, H1.out⟩
  case round =>
    obtain ⟨j, rfl, hj, S, T, H, R, Qs, jj, ⟨I, hSq, hTm, hTl, hRj⟩, ⟨sl, cl, rfl⟩, h, hj0, hjj⟩ := hrel
    clear H1
    have hmw := h.mod
    by_cases hlt : j < len
    · skip
      have hzj : z[j]? = some (z[j]'(by rw [HR.out.1.count]; exact hlt)) := List.getElem?_eq_getElem _
      obtain ⟨hrl, hro⟩ := HR.out.1.ok _ (List.mem_of_getElem? hzj)
      obtain ⟨bb, off, rfl, hb, hc⟩ := HR.out.1.cells (by omega)
      generalize z[j]'(by rw [HR.out.1.count]; exact hlt) = r at *
      match r, hrl with
      | [d, nn, kk, x], _ =>
      have c0 := hc j _ hzj 0 _ d rfl rfl
      have c1 := hc j _ hzj 1 _ nn rfl rfl
      have c2 := hc j _ hzj 2 _ kk rfl rfl
      have c3 := hc j _ hzj 3 _ x rfl rfl
      have hd := bounds_i64 (hro 0 _ d rfl rfl)
      have hn := bounds_i64 (hro 1 _ nn rfl rfl)
      have hk := bounds_i64 (hro 2 _ kk rfl rfl)
      have hx := bounds_u64 (hro 3 _ x rfl rfl)
      simp only [List.length_cons, List.length_nil, Nat.add_zero, Nat.zero_add, Nat.reduceAdd, fv] at c0 c1 c2 c3
      have HCW := Lib.hid (And.intro c0 (And.intro c1 (And.intro c2 (And.intro c3 hb))))
      have c0 := hmw.cell c0 (fun x => x)
      have c1 := hmw.cell c1 (fun x => x)
      have c2 := hmw.cell c2 (fun x => x)
      have c3 := hmw.cell c3 (fun x => x)
      have hbw : bb < wr.heap.size := Nat.lt_of_lt_of_le hb hmw.size
      have hlt' : (j : Int) < (len : Int) := by omega
      have hx2 : 0 ≤ x ∧ x < 18446744073709551616 := ⟨hx.1, by omega⟩
      obtain ⟨a, S', T', H', R', D⟩ := SStep.ex (r := [d, nn, kk, x]) I hx2
      have hst := step06_call h 0 jj (Ne.symm hj0) rfl hjj rfl (by have := HR.out.2; omega) (HT.out.mod h.mod) I hd hn hk hx2 D
      have HD := Lib.hid (And.intro D (And.intro I (And.intro hSq (And.intro hTm (And.intro hTl hRj)))))
      have HK1 : Hid (j + 1 ≤ len ∧ len - (j + 1) < len - j) := by exact Lib.hid ⟨by omega, by omega⟩
      clear h hzj hro hc hb hjj I D hmw hlt
      go_wp2_with fail
      refine hst.mono ?_
      rintro e w3 ⟨sa', ca', Qs', j', rfl, h3, hj1, hj2⟩
      have H3 : Hid (SwRel w b q m 5 (j + 1) (.slice sa' R'.length ca') w3) := by
        obtain ⟨D, I, hSq, hTm, hTl, hRj⟩ := HD.out
        exact Lib.hid ⟨S', T', H', R', Qs ++ Qs', j', ⟨D.inv I, D.quo.trans hSq, D.ml.1.trans hTm, D.ml.2.trans hTl, by have := D.len; omega⟩, ⟨_, _, rfl⟩, h3, by simp only [List.length_cons] at hj1; omega, hj2⟩
      clear hst h3 hj2 c0 c1 c2 c3
      go_wp2_with fail
      go_roundw
      case rel => exact ⟨j + 1, by go_num, HK1.out.1, H3.out⟩
      case measure => have := HK1.out.2; simp [RowKit.intOf]; omega
    · obtain rfl : j = len := by omega
      have dI : decide ((j : Int) < (j : Int)) = false := ltF (by omega)
      have hlow : ∀ k ∈ S.pg, k < 1048576 := I.rep.low
      have hok := I.tok
      have hraw := HTbl.raw_ok hok
      have hr1 := straw_call h 0 rfl hlow
      have HI := Lib.hid (And.intro I.rep.ok (And.intro hlow (And.intro hok hraw)))
      rw [hSq] at hr1
      have HE := Lib.hid (And.intro hSq (And.intro hTm hTl))
      clear h hmw hlt hj hjj I hok hraw hlow hSq hTm hTl
      go_wp2_with fail
      refine hr1.mono ?_
      rintro e w3 ⟨pa, pc, za, zc, rfl, h3⟩
      have h4 : Sep No w w3 [pageR (.slice pa S.pg.length pc) S.pg.length S.wd S.pg, slotR (.slice za T.raw.length zc) T.raw.length T.raw] := Sep.rgt h3
      obtain ⟨rb, hrb⟩ : ∃ x, w3.heap.size = x := ⟨_, rfl⟩
      have h5 := h4.pushCells (rawC q m 5 (.slice pa S.pg.length pc) (.slice za T.raw.length zc)) 87
      rw [hrb] at h5
      have H6 : Hid (RawSt w rb q m 5 (w3.alloc (.cells (rawC q m 5 (.slice pa S.pg.length pc) (.slice za T.raw.length zc)) 87))) := by
        obtain ⟨hok1, hlow, hok, hraw⟩ := HI.out
        obtain ⟨hSq, hTm, hTl⟩ := HE.out
        refine Lib.hid ⟨S, T.raw, pa, za, pc, zc, ⟨hok1, hSq, hlow⟩, ⟨by rw [HTbl.raw_len, ← hTm]; exact hok.len, fun r hr => ?_⟩, h5.reorder [2, 0, 1] (by decide) rfl⟩
        have h1 := HTbl.rOk_iff.1 (hraw r hr).1
        have h2 := (hraw r hr).2
        omega
      clear hr1 h3 h4 h5 HI
      go_wp2_with fail
      obtain ⟨W4, hW4⟩ : ∃ W, w3.alloc (.cells #[.int .i64 q, .int .i64 m, .int .u32 5, .slice pa S.pg.length pc, .slice za T.raw.length zc] 87) = W := ⟨_, rfl⟩
      have H6 : Hid (RawSt w rb q m 5 W4) := by rw [← hW4]; exact H6
      rw [hW4]
      clear hW4 hrb HE
      go_loopw [16] (fun iv wr => ∃ i : Nat, iv = .int .i64 i ∧ i ≤ len2 ∧ RawSt w rb q m 5 wr) (fun iv _ => len2 - (RowKit.intOf iv).toNat)
      case atStart => exact ⟨0, rfl, Nat.zero_le _, H6.out⟩
      case round =>
        obtain ⟨i, rfl, hi, S1, zs, pa1, za1, pc1, zc1, ⟨hok, hSq, hlow⟩, ⟨hzl, hzr⟩, h⟩ := hrel
        clear H6
        have hmw := h.mod
        by_cases hlt : i < len2
        · have hzj : z2[i]? = some (z2[i]'(by rw [HR2.out.1.count]; exact hlt)) := List.getElem?_eq_getElem _
          obtain ⟨hrl, hro⟩ := HR2.out.1.ok _ (List.mem_of_getElem? hzj)
          obtain ⟨bb, off, rfl, hb, hc⟩ := HR2.out.1.cells (by omega)
          generalize z2[i]'(by rw [HR2.out.1.count]; exact hlt) = r at *
          match r, hrl with
          | [p, at', wv, o, g, ad], _ =>
          have c0 := hc i _ hzj 0 _ p rfl rfl
          have c1 := hc i _ hzj 1 _ at' rfl rfl
          have c2 := hc i _ hzj 2 _ wv rfl rfl
          have c3 := hc i _ hzj 3 _ o rfl rfl
          have c4 := hc i _ hzj 4 _ g rfl rfl
          have c5 := hc i _ hzj 5 _ ad rfl rfl
          have hpb := bounds_i64 (hro 0 _ p rfl rfl)
          have hatb := bounds_i64 (hro 1 _ at' rfl rfl)
          have hwv := bounds_u64 (hro 2 _ wv rfl rfl)
          have hg := bounds_u32 (hro 4 _ g rfl rfl)
          have had := bounds_i64 (hro 5 _ ad rfl rfl)
          simp only [List.length_cons, List.length_nil, Nat.add_zero, Nat.zero_add, Nat.reduceAdd, fv] at c0 c1 c2 c3 c4 c5
          have c0 := hmw.cell c0 (fun x => x)
          have c1 := hmw.cell c1 (fun x => x)
          have c2 := hmw.cell c2 (fun x => x)
          have c3 := hmw.cell c3 (fun x => x)
          have c4 := hmw.cell c4 (fun x => x)
          have c5 := hmw.cell c5 (fun x => x)
          have hbw : bb < wr.heap.size := Nat.lt_of_lt_of_le hb hmw.size
          have hlt' : (i : Int) < (len2 : Int) := by omega
          have HK1 : Hid (i + 1 ≤ len2 ∧ len2 - (i + 1) < len2 - i) := by exact Lib.hid ⟨by omega, by omega⟩
          obtain ⟨cb, hcb⟩ : ∃ x, wr.heap.size = x := ⟨_, rfl⟩
          have h5 := h.pushCells #[.int .i64 p, .int .i64 at', .int .u64 wv, .bool (o == 1), .int .u32 g, .int .i64 ad] 95
          rw [hcb] at h5
          clear hzj hro hc hb hlt hmw h
          go_upto_region 17 with fail
          obtain ⟨W5, hW5⟩ : ∃ W, wr.alloc (.cells #[.int .i64 p, .int .i64 at', .int .u64 wv, .bool (o == 1), .int .u32 g, .int .i64 ad] 95) = W := ⟨_, rfl⟩
          rw [hW5] at h5 ⊢
          have h5 : Sep No w W5 [cellsAt rb (rawC q m 5 (.slice pa1 S1.pg.length pc1) (.slice za1 zs.length zc1)) 87, pageR (.slice pa1 S1.pg.length pc1) S1.pg.length S1.wd S1.pg, slotR (.slice za1 zs.length zc1) zs.length zs, cellsAt cb #[.int .i64 p, .int .i64 at', .int .u64 wv, .bool (o == 1), .int .u32 g, .int .i64 ad] 95] := h5
          clear hW5 c0 c1 c2 c3 c4 c5 hbw
          have k3 := (h5.cell 0 rfl 3 (v := .slice pa1 S1.pg.length pc1) rfl).1
          have k4 := (h5.cell 0 rfl 4 (v := .slice za1 zs.length zc1) rfl).1
          have e0 := (h5.cell 3 rfl 0 (v := .int .i64 p) rfl).1
          have e1 := (h5.cell 3 rfl 1 (v := .int .i64 at') rfl).1
          have e2 := (h5.cell 3 rfl 2 (v := .int .u64 wv) rfl).1
          have e3 := (h5.cell 3 rfl 3 (v := .bool (o == 1)) rfl).1
          have e4 := (h5.cell 3 rfl 4 (v := .int .u32 g) rfl).1
          have e5 := (h5.cell 3 rfl 5 (v := .int .i64 ad) rfl).1
          have HS := Lib.hid (And.intro hok (And.intro hSq (And.intro hlow (And.intro hzl hzr))))
          have hkl : zs.length ≤ 100 := by have := HQ.out.2.2; omega
          have hpl : S1.pg.length ≤ 4096 := by have := hok.fit; have := hok.q1; omega
          clear hok hSq hlow hzl hzr
          by_cases ha : at' < 0
          · have dA : decide (at' < 0) = true := decide_eq_true ha
            have dB : decide (0 ≤ at') = false := decide_eq_false (by omega)
            by_cases hz0 : zs.length = 0
            · have dC : decide ((0 : Int) < (zs.length : Int)) = false := decide_eq_false (by omega)
              have H8 : Hid (RawSt w rb q m 5 W5) := by
                obtain ⟨hok, hSq, hlow, hzl, hzr⟩ := HS.out
                exact Lib.hid ⟨S1, zs, pa1, za1, pc1, zc1, ⟨hok, hSq, hlow⟩, ⟨hzl, hzr⟩, Sep.left (Ps := [_, _, _]) h5⟩
              clear h5
              go_wp2_with fail
              go_roundw
              case rel => exact ⟨i + 1, by go_num, HK1.out.1, H8.out⟩
              case measure => have := HK1.out.2; simp [RowKit.intOf]; omega
            · have dC : decide ((0 : Int) < (zs.length : Int)) = true := decide_eq_true (by omega)
              obtain ⟨gz, cz, hv⟩ := Joins.ownsRow_form (h5.row 2 rfl) (by omega)
              simp only [Value.slice.injEq, true_and] at hv
              obtain ⟨rfl, rfl⟩ := hv
              obtain ⟨u, jx, hu, hj1, hj2, hu1, hu2⟩ := round_idx (p := p) (k := zs.length) (by omega)
              generalize hzn : zs.length = kz at *
              go_upto_region 18 with fail
              have x1 : IntKind.i64.wrap u = u := by rw [IntKind.wrap_i64]; omega
              have x2 : IntKind.i64.wrap (u + (kz : Int)) = u + (kz : Int) := by rw [IntKind.wrap_i64]; omega
              have x3 : IntKind.i64.wrap (jx : Int) = (jx : Int) := by rw [IntKind.wrap_i64]; omega
              have x4 : (0 : Int) ≤ (jx : Int) := by omega
              have x5 : (jx : Int) < (kz : Int) := by omega
              have x6 : (kz : Int) ≠ 0 := by omega
              go_still_tail 19, (by kernel_rfl)
              change wpList _ _ _ _ _ W5.drew
              have h6 := h5.drew
              generalize W5.drew = W6 at *
              have hzg : zs[jx]? = some (zs[jx]'(by omega)) := List.getElem?_eq_getElem _
              obtain ⟨g0, g1, g2⟩ := arow_get hzg
              obtain ⟨y0, hy0, i0, fz⟩ := h6.item 2 rfl g0
              cases hy0
              obtain ⟨y1, hy1, i1, -⟩ := h6.item 2 rfl g1
              cases hy1
              obtain ⟨y2, hy2, i2, -⟩ := h6.item 2 rfl g2
              cases hy2
              have f0 := fz (jx * 3)
              have f1 := fz (jx * 3 + 1)
              have f2 := fz (jx * 3 + 2)
              have h7 := ((h6.setItem 2 rfl (jx * 3) (.bool (o == 1))).setItem 2 rfl (jx * 3 + 1) (.int .u32 g)).setItem 2 rfl (jx * 3 + 2) (.int .i64 ad)
              go_upto_region 19 with fail
              generalize ((W6.setCell ⟨gz, jx * 3, none⟩ (.bool (o == 1))).setCell ⟨gz, jx * 3 + 1, none⟩ (.int .u32 g)).setCell ⟨gz, jx * 3 + 2, none⟩ (.int .i64 ad) = W7 at *
              have e1 := (h7.cell 3 rfl 1 (v := .int .i64 at') rfl).1
              have H8 : Hid (RawSt w rb q m 5 W7) := by
                obtain ⟨hok, hSq, hlow, hzl, hzr⟩ := HS.out
                refine Lib.hid ⟨S1, zs.set jx ⟨o == 1, g, ad⟩, pa1, some ⟨gz, 0, none⟩, pc1, zc1, ⟨hok, hSq, hlow⟩, ⟨by rw [List.length_set]; omega, fun r hr => ?_⟩, ?_⟩
                · rcases List.mem_or_eq_of_mem_set hr with hr | rfl
                  · exact hzr r hr
                  · exact ⟨hg.1, had.1, had.2⟩
                · rw [List.length_set, hzn]
                  unfold slotR
                  rw [arow_set _ _ (by omega)]
                  exact Sep.left (Ps := [_, _, _]) h7
              clear fz hzg g0 g1 g2 h7 h6 h5 i0 i1 i2 f0 f1 f2 k3 k4 e0 e2 e3 e4 e5
              go_wp2_with fail
              go_roundw
              case rel => exact ⟨i + 1, by go_num, HK1.out.1, H8.out⟩
              case measure => have := HK1.out.2; simp [RowKit.intOf]; omega
          · have dA : decide (at' < 0) = false := decide_eq_false ha
            have dB : decide (0 ≤ at') = true := decide_eq_true (by omega)
            by_cases ha2 : at' < 64
            · have dD : decide (at' < 64) = true := decide_eq_true ha2
              by_cases hp0 : S1.pg.length = 0
              · have dC : decide ((0 : Int) < (S1.pg.length : Int)) = false := decide_eq_false (by omega)
                have H8 : Hid (RawSt w rb q m 5 W5) := by
                  obtain ⟨hok, hSq, hlow, hzl, hzr⟩ := HS.out
                  exact Lib.hid ⟨S1, zs, pa1, za1, pc1, zc1, ⟨hok, hSq, hlow⟩, ⟨hzl, hzr⟩, Sep.left (Ps := [_, _, _]) h5⟩
                clear h5
                go_wp2_with fail
                go_roundw
                case rel => exact ⟨i + 1, by go_num, HK1.out.1, H8.out⟩
                case measure => have := HK1.out.2; simp [RowKit.intOf]; omega
              · have dC : decide ((0 : Int) < (S1.pg.length : Int)) = true := decide_eq_true (by omega)
                obtain ⟨gp, cp, hv⟩ := Joins.ownsRow_form (h5.row 1 rfl) (by omega)
                simp only [Value.slice.injEq, true_and] at hv
                obtain ⟨rfl, rfl⟩ := hv
                obtain ⟨u, jx, hu, hj1, hj2, hu1, hu2⟩ := round_idx (p := p) (k := S1.pg.length) (by omega)
                obtain ⟨ja, rfl⟩ := Int.eq_ofNat_of_zero_le (show 0 ≤ at' by omega)
                generalize hpn : S1.pg.length = kz at *
                go_upto_region 20 with fail
                have x1 : IntKind.i64.wrap u = u := by rw [IntKind.wrap_i64]; omega
                have x2 : IntKind.i64.wrap (u + (kz : Int)) = u + (kz : Int) := by rw [IntKind.wrap_i64]; omega
                have x3 : IntKind.i64.wrap (jx : Int) = (jx : Int) := by rw [IntKind.wrap_i64]; omega
                have x4 : (0 : Int) ≤ (jx : Int) := by omega
                have x5 : (jx : Int) < (kz : Int) := by omega
                have x6 : (kz : Int) ≠ 0 := by omega
                have x7 : (0 : Int) ≤ (ja : Int) := by omega
                go_still_tail 23, (by kernel_rfl)
                change wpList _ _ _ _ _ W5.drew
                have h6 := h5.drew
                generalize W5.drew = W6 at *
                have hpg : S1.pg[jx]? = some (S1.pg[jx]'(by omega)) := List.getElem?_eq_getElem _
                obtain ⟨pn, hpx⟩ : ∃ x, S1.pg[jx]'(by omega) = x := ⟨_, rfl⟩
                rw [hpx] at hpg
                have hja : ja < 64 := by omega
                obtain ⟨y0, hy0, i0, fz⟩ := h6.item 1 rfl (prow_word hpg hja)
                cases hy0
                have f0 := fz (jx * 65 + 1 + ja)
                have h7 := h6.setItem 1 rfl (jx * 65 + 1 + ja) (.int .u64 wv)
                go_upto_region 15 with fail
                generalize W6.setCell ⟨gp, jx * 65 + 1 + ja, none⟩ (.int .u64 wv) = W7 at *
                have H8 : Hid (RawSt w rb q m 5 W7) := by
                  obtain ⟨hok, hSq, hlow, hzl, hzr⟩ := HS.out
                  have hpm := List.mem_of_getElem? hpg
                  have hw := Slb.write_page (S := S1) (a := 64 * pn + ja) (v := wv) (by rw [show (64 * pn + ja) / 64 = pn by omega]; exact hpm) (by have := hlow _ hpm; omega)
                  have hok2 := Slb.write_ok hok ((64 * pn + ja : Nat) : Int) wv hwv.1 (by omega)
                  rw [hw] at hok2
                  refine Lib.hid ⟨_, zs, some ⟨gp, 0, none⟩, za1, pc1, zc1, ⟨hok2, hSq, hlow⟩, ⟨hzl, hzr⟩, ?_⟩
                  dsimp only
                  unfold pageR
                  rw [prow_set (Slb.nodup hok) hpg hja, show jx * 65 + (1 + ja) = jx * 65 + 1 + ja by omega, hpn]
                  exact Sep.left (Ps := [_, _, _]) h7
                clear fz h7 h6 h5 i0 f0 k3 k4 e0 e1 e2 e3 e4 e5 hpg hpx
                go_wp2_with fail
                go_roundw
                case rel => exact ⟨i + 1, by go_num, HK1.out.1, H8.out⟩
                case measure => have := HK1.out.2; simp [RowKit.intOf]; omega
            · have dD : decide (at' < 64) = false := decide_eq_false ha2
              have H8 : Hid (RawSt w rb q m 5 W5) := by
                obtain ⟨hok, hSq, hlow, hzl, hzr⟩ := HS.out
                exact Lib.hid ⟨S1, zs, pa1, za1, pc1, zc1, ⟨hok, hSq, hlow⟩, ⟨hzl, hzr⟩, Sep.left (Ps := [_, _, _]) h5⟩
              clear h5
              go_wp2_with fail
              go_roundw
              case rel => exact ⟨i + 1, by go_num, HK1.out.1, H8.out⟩
              case measure => have := HK1.out.2; simp [RowKit.intOf]; omega
        · obtain rfl : i = len2 := by omega
          have dI2 : decide ((i : Int) < (i : Int)) = false := ltF (by omega)
          subst hSq
          have hkl : zs.length ≤ 100 := by have := HQ.out.2.2; omega
          have hpl : S1.pg.length ≤ 4096 := by have := hok.fit; have := hok.q1; omega
          have k0 := (h.cell 0 rfl 0 (v := .int .i64 S1.quota) rfl).1
          have k1 := (h.cell 0 rfl 1 (v := .int .i64 m) rfl).1
          have k2 := (h.cell 0 rfl 2 (v := .int .u32 5) rfl).1
          have k3 := (h.cell 0 rfl 3 (v := .slice pa1 S1.pg.length pc1) rfl).1
          have k4 := (h.cell 0 rfl 4 (v := .slice za1 zs.length zc1) rfl).1
          have hof := stof_call S1.quota m 5 (pc := pc1) (zc := zc1) wr (show Slb.Ok ⟨S1.quota, S1.pg, S1.wd⟩ from hok) hlow rfl rfl HQ.out.2.1 (by have := HQ.out.2.2; omega) (by omega) (by omega) hzl (PagesIn.row rfl (h.row 1 rfl)) (SlotsIn.row (h.row 2 rfl)) hzr
          have HS := Lib.hid (And.intro hok (And.intro hlow (And.intro hzl (And.intro hzr (And.intro hkl hpl)))))
          have H := Lib.hid h
          clear h hok hlow hzl hzr hkl hpl hmw hlt hi
          go_wp2_with fail
          refine hof.mono ?_
          rintro e w4 h4
          clear hof k0 k1 k2 k3 k4
          rcases h4 with ⟨-, rfl, m4⟩ | ⟨b2, hall, hau, rfl, h4⟩
          · have HM := Lib.hid (H.out.mod.trans' m4)
            clear m4 H
            go_wp2_with fail
            have ha := awake06_call w4 (HT.out.mod HM.out)
            go_wp2_with fail
            refine ha.mono ?_
            rintro e w9 ⟨rfl, hm9⟩
            have H9 := Lib.hid (HM.out.trans' hm9)
            clear ha hm9
            go_wp2
            go_ret
            exact ⟨rfl, H9.out.below _ (Nat.le_refl _) (fun _ _ x => x)⟩
          · obtain ⟨hok, hlow, hzl, hzr, hkl, hpl⟩ := HS.out
            have h5 := H.out.join h4
            have h5 : Sep No w w4 [cellsAt rb (rawC S1.quota m 5 (.slice pa1 S1.pg.length pc1) (.slice za1 zs.length zc1)) 87, pageR (.slice pa1 S1.pg.length pc1) S1.pg.length S1.wd S1.pg, slotR (.slice za1 zs.length zc1) zs.length zs, stR b2 m 5 S1 (HTbl.ofRaw m 5 zs)] := h5
            have hau : stAudit S1 (HTbl.ofRaw m 5 zs) = 0 := hau
            have hraw : (HTbl.ofRaw m 5 zs).raw = zs := HTbl.raw_ofRaw hall
            have hTok : (HTbl.ofRaw m 5 zs).Ok := HTbl.ofRaw_ok (by have := HQ.out.2.1; omega) (by have := HQ.out.2.2; omega) (by omega) (by omega) hzl hall (fun r hr => (hzr r hr).2.2)
            obtain ⟨T2, hT2⟩ : ∃ T2, HTbl.ofRaw m 5 zs = T2 := ⟨_, rfl⟩
            rw [hT2] at h5 hau hraw hTok
            have I2 := stAudit_inv hok hlow hTok hau
            obtain ⟨H2, hH2⟩ : ∃ H2, S1.heads = H2 := ⟨_, rfl⟩
            obtain ⟨R2, hR2⟩ : ∃ R2, S1.live.map (recAt S1) = R2 := ⟨_, rfl⟩
            rw [hH2, hR2] at I2
            have hal := stall_call h5 3 rfl
            have hlf : ∀ (k : Nat) hh, (stAll S1)[k]? = some hh → ∃ j r, Rec R2 hh j r ∧ r.w.length ≤ 3998 ∧ 0 ≤ hh ∧ hh < 18446744073709551616 := fun k hh hk => by
              have hm := I2.all_perm.mem_iff.1 (List.mem_of_getElem? hk)
              obtain ⟨r, hr, rfl⟩ := List.mem_map.1 hm
              have hm := List.mem_filter.1 hr
              have h0 : 0 ≤ r.a := by simpa using hm.2
              obtain ⟨j, hj⟩ := List.mem_iff_getElem?.1 hm.1
              have hw := I2.words r hm.1 h0
              have hb := hok.words r.a.toNat
              rw [hw.2.1] at hb
              exact ⟨j, r, ⟨hj, h0, rfl⟩, hw.1, hb⟩
            have HI := Lib.hid (And.intro I2 hlf)
            have HA := Lib.hid (And.intro hau hraw)
            obtain ⟨N, hN⟩ : ∃ N, (stAll S1).length = N := ⟨_, rfl⟩
            rw [hN] at hal
            have hNb : N ≤ 4000000 := by have := live_len hok; rw [← stAll_len, hN] at this; omega
            clear hall hau h5 h4 hraw hTok I2 hH2 hR2 hlf H hok hlow hzl hzr hkl hpl hT2
            go_wp2_with fail
            refine hal.mono ?_
            rintro e w5 ⟨sx, cx, rfl, h6⟩
            have h6 : Sep No w w5 [cellsAt rb (rawC S1.quota m 5 (.slice pa1 S1.pg.length pc1) (.slice za1 zs.length zc1)) 87, pageR (.slice pa1 S1.pg.length pc1) S1.pg.length S1.wd S1.pg, slotR (.slice za1 zs.length zc1) zs.length zs, stR b2 m 5 S1 T2, hdRow (.slice sx N cx) N (stAll S1)] := by
              have h7 := h6
              unfold intsAt at h7
              rw [hN] at h7
              exact h7
            have H6 := Lib.hid h6
            have HN := Lib.hid hN
            clear hal h6 hN
            go_wp2_with fail
            go_loopw [21] (fun iv wr => ∃ k : Nat, iv = .int .i64 k ∧ k ≤ N ∧ wr = w5) (fun iv _ => N - (RowKit.intOf iv).toNat)
            case atStart => exact ⟨0, rfl, Nat.zero_le _, rfl⟩
            case round =>
              obtain ⟨k, rfl, hk, rfl⟩ := hrel
              by_cases hlt : k < N
              · have hlt' : (k : Int) < (N : Int) := by omega
                have hkx : (stAll S1)[k]? = some ((stAll S1)[k]'(by rw [HN.out]; exact hlt)) := List.getElem?_eq_getElem _
                generalize (stAll S1)[k]'(by rw [HN.out]; exact hlt) = hh at *
                obtain ⟨g, rfl, hcell, -⟩ := H6.out.item 4 rfl (o := k) (x := .int .u64 hh) (by rw [List.getElem?_map, hkx]; rfl)
                obtain ⟨jr, r, L, hwl, hh0, hh1⟩ := HI.out.2 k hh hkx
                have hln := stlen_call H6.out 3 rfl HI.out.1 ⟨hh0, hh1⟩ (.ok jr r L)
                have hgt : ∀ k2 : Nat, k2 < r.w.length → ∃ x, Calls Tryz.prog 37 #[.pointer (some ⟨b2, 0, none⟩), .int .u64 hh, .int .i64 (k2 : Nat)] wr fun e w' => e = .returned (.tuple #[.int .u64 x, .int .i64 0]) ∧ wr = w' := fun k2 hk2 =>
                  ⟨_, stget_call H6.out 3 rfl HI.out.1 ⟨hh0, hh1⟩ (.ok jr r L k2 rfl _ (List.getElem?_eq_getElem hk2))⟩
                obtain ⟨n, hn⟩ : ∃ n, r.w.length = n := ⟨_, rfl⟩
                rw [hn] at hgt hln hwl
                have HG := Lib.hid hgt
                have x1 : decide ((n : Int) < 0) = false := ltF (by omega)
                have x2 : decide ((3998 : Int) < (n : Int)) = false := ltF (by omega)
                have HK1 : Hid (k + 1 ≤ N ∧ N - (k + 1) < N - k) := by exact Lib.hid ⟨by omega, by omega⟩
                clear hgt L hkx hn hlt
                go_wp2_with fail
                refine hln.mono ?_
                rintro e wx ⟨rfl, rfl⟩
                clear hln
                go_wp2_with fail
                go_loopw [24] (fun iv wx => ∃ k2 : Nat, iv = .int .i64 k2 ∧ k2 ≤ n ∧ wx = wr) (fun iv _ => n - (RowKit.intOf iv).toNat)
                case atStart => exact ⟨0, rfl, Nat.zero_le _, rfl⟩
                case round =>
                  obtain ⟨k2, rfl, hk2, rfl⟩ := hrel
                  by_cases hlt2 : k2 < n
                  · have hlt3 : (k2 : Int) < (n : Int) := by omega
                    obtain ⟨x, hg2⟩ := HG.out k2 hlt2
                    have HK2 : Hid (k2 + 1 ≤ n ∧ n - (k2 + 1) < n - k2) := by exact Lib.hid ⟨by omega, by omega⟩
                    clear hlt2
                    go_wp2_with fail
                    refine hg2.mono ?_
                    rintro e wy ⟨rfl, rfl⟩
                    clear hg2
                    go_wp2_with fail
                    go_roundw
                    case rel => exact ⟨k2 + 1, by go_num, HK2.out.1, trivial⟩
                    case measure => have := HK2.out.2; simp [RowKit.intOf]; omega
                  · obtain rfl : k2 = n := by omega
                    have dI5 : decide ((k2 : Int) < (k2 : Int)) = false := ltF (by omega)
                    clear hlt2 hk2
                    go_wp2_with fail
                    go_roundw
                    case rel => exact ⟨k + 1, by go_num, HK1.out.1, trivial⟩
                    case measure => have := HK1.out.2; simp [RowKit.intOf]; omega
              · obtain rfl : k = N := by omega
                have dI5 : decide ((k : Int) < (k : Int)) = false := ltF (by omega)
                obtain ⟨hok, hlow, hzl, hzr, hkl, hpl⟩ := HS.out
                have hau := staudit_any H6.out.drew 3 rfl hlow
                rw [HA.out.1] at hau
                have k0 := (H6.out.cell 0 rfl 0 (v := .int .i64 S1.quota) rfl).1
                have k1 := (H6.out.cell 0 rfl 1 (v := .int .i64 m) rfl).1
                have k2 := (H6.out.cell 0 rfl 2 (v := .int .u32 5) rfl).1
                have k3 := (H6.out.cell 0 rfl 3 (v := .slice pa1 S1.pg.length pc1) rfl).1
                have k4 := (H6.out.cell 0 rfl 4 (v := .slice za1 zs.length zc1) rfl).1
                clear hok hlow hzl hzr hkl hpl hlt hk
                go_upto_region 37 with fail
                go_region_held3 (fun w' => w'.cell? ⟨rb, 0, none⟩ = some (.int .i64 S1.quota) ∧ w'.cell? ⟨rb, 1, none⟩ = some (.int .i64 m) ∧ w'.cell? ⟨rb, 2, none⟩ = some (.int .u32 5) ∧ w'.cell? ⟨rb, 3, none⟩ = some (.slice pa1 S1.pg.length pc1) ∧ w'.cell? ⟨rb, 4, none⟩ = some (.slice za1 zs.length zc1))
                  (first | exact ⟨k0, k1, k2, k3, k4⟩ | exact hold1 | exact hold2 | exact hold3 | exact hold4)
                  (first
                    | (go_at_call 26; refine hau.mono ?_; rintro e w6 ⟨rfl, h6⟩; have hold1 := held5 h6; have hrw := straw_call h6 3 rfl HS.out.2.1; rw [HA.out.2] at hrw; clear hau)
                    | (go_at_call 34; refine hrw.mono ?_; rintro e w7 ⟨pa7, pc7, za7, zc7, rfl, h7⟩; have hold2 := held5 h7; have hal := alike_call S1.quota m 5 (pc := pc7) (pd := pc1) (zc := zc7) (zd := zc1) w7 rfl rfl HS.out.2.2.2.2.2 (by have := HS.out.2.2.2.2.1; omega) (PagesIn.row rfl (h7.row 5 rfl)) (PagesIn.row rfl (h7.row 1 rfl)) (SlotsIn.row (h7.row 6 rfl)) (SlotsIn.row (h7.row 2 rfl)); clear hrw)
                    | (go_at_call 35; refine hal.mono ?_; rintro e w8 ⟨rfl, m8⟩; have h8 := h7.more m8; have hold3 := held5 h8; have haw := awake06_call w8 (HT.out.mod h8.mod); clear hal)
                    | (go_at_call 31; refine haw.mono ?_; rintro e w9 ⟨rfl, m9⟩; have h9 := h8.more m9; have hold4 := held5 h9; clear haw))
                have HM := Lib.hid h9.mod
                clear h9 h8 h7 h6 hold1 hold2 hold3 hold4
                go_wp2
                go_ret
                exact ⟨rfl, HM.out.below _ (Nat.le_refl _) (fun _ _ x => x)⟩

theorem storeAny_walk (q m : Int) (sa : Option Addr) (len cap : Nat) (z : List (List Int)) (sb : Option Addr) (len2 cap2 : Nat) (z2 : List (List Int)) (w : World) (w0 : (Lit.int .i64 q).wf = true) (w1 : (Lit.int .i64 m).wf = true)
    (R : Recs w sa len [some .i64, some .i64, some .i64, some .u64] z) (R2 : Recs w sb len2 [some .i64, some .i64, some .u64, none, some .u32, some .i64] z2) (hT : Tab64 w) :
    Calls Tryz.prog 8 #[.int .i64 q, .int .i64 m, .slice sa len cap, .slice sb len2 cap2] w fun e w' => e = .returned (.bool true) ∧ Below w.heap.size w w' := by
  by_cases hall : (0 ≤ q ∧ q ≤ 4000) ∧ (1 ≤ m ∧ m ≤ 100) ∧ len ≤ 30 ∧ len2 ≤ 5
  · exact sany_in q m w hall.1 hall.2.1 R hall.2.2.1 R2 hall.2.2.2 hT
  · have HM := Lib.hid (Mod.refl No w)
    have HT := Lib.hid hT
    clear hT R R2
    by_cases h1 : q < 0
    · have d1 := ltT h1
      clear hall h1
      go_enter Tryz.func8, Tryz.ntmps8
      have ha := awake06_call w (HT.out.mod HM.out)
      go_wp2_with fail
      refine ha.mono ?_
      rintro e w9 ⟨rfl, hm9⟩
      have H9 := Lib.hid (HM.out.trans' hm9)
      clear ha hm9
      go_wp2
      go_ret
      exact ⟨rfl, H9.out.below _ (Nat.le_refl _) (fun _ _ x => x)⟩
    have d1 : decide (q < 0) = false := ltF (by omega)
    by_cases h2 : 4000 < q
    · have d2 := ltT h2
      clear hall h1 h2
      go_enter Tryz.func8, Tryz.ntmps8
      have ha := awake06_call w (HT.out.mod HM.out)
      go_wp2_with fail
      refine ha.mono ?_
      rintro e w9 ⟨rfl, hm9⟩
      have H9 := Lib.hid (HM.out.trans' hm9)
      clear ha hm9
      go_wp2
      go_ret
      exact ⟨rfl, H9.out.below _ (Nat.le_refl _) (fun _ _ x => x)⟩
    have d2 : decide (4000 < q) = false := ltF (by omega)
    by_cases h3 : m < 1
    · have d3 := ltT h3
      clear hall h1 h2 h3
      go_enter Tryz.func8, Tryz.ntmps8
      have ha := awake06_call w (HT.out.mod HM.out)
      go_wp2_with fail
      refine ha.mono ?_
      rintro e w9 ⟨rfl, hm9⟩
      have H9 := Lib.hid (HM.out.trans' hm9)
      clear ha hm9
      go_wp2
      go_ret
      exact ⟨rfl, H9.out.below _ (Nat.le_refl _) (fun _ _ x => x)⟩
    have d3 : decide (m < 1) = false := ltF (by omega)
    by_cases h4 : 100 < m
    · have d4 := ltT h4
      clear hall h1 h2 h3 h4
      go_enter Tryz.func8, Tryz.ntmps8
      have ha := awake06_call w (HT.out.mod HM.out)
      go_wp2_with fail
      refine ha.mono ?_
      rintro e w9 ⟨rfl, hm9⟩
      have H9 := Lib.hid (HM.out.trans' hm9)
      clear ha hm9
      go_wp2
      go_ret
      exact ⟨rfl, H9.out.below _ (Nat.le_refl _) (fun _ _ x => x)⟩
    have d4 : decide (100 < m) = false := ltF (by omega)
    by_cases h6 : 30 < len
    · have d6 : decide ((30 : Int) < (len : Int)) = true := ltT (by omega)
      clear hall h1 h2 h3 h4 h6
      go_enter Tryz.func8, Tryz.ntmps8
      have ha := awake06_call w (HT.out.mod HM.out)
      go_wp2_with fail
      refine ha.mono ?_
      rintro e w9 ⟨rfl, hm9⟩
      have H9 := Lib.hid (HM.out.trans' hm9)
      clear ha hm9
      go_wp2
      go_ret
      exact ⟨rfl, H9.out.below _ (Nat.le_refl _) (fun _ _ x => x)⟩
    have d6 : decide ((30 : Int) < (len : Int)) = false := ltF (by omega)
    have d7 : decide ((5 : Int) < (len2 : Int)) = true := ltT (by omega)
    clear hall h1 h2 h3 h4 h6
    go_enter Tryz.func8, Tryz.ntmps8
    have ha := awake06_call w (HT.out.mod HM.out)
    go_wp2_with fail
    refine ha.mono ?_
    rintro e w9 ⟨rfl, hm9⟩
    have H9 := Lib.hid (HM.out.trans' hm9)
    clear ha hm9
    go_wp2
    go_ret
    exact ⟨rfl, H9.out.below _ (Nat.le_refl _) (fun _ _ x => x)⟩
end Go.Proofs.YtmdnofojecncgaaGreatDoor
