/- NodeRoom, walked. Condition: the table of math/bits holds what its initialiser lays. -/
import Derived.Test.YtfmcddomciicdaaDoorNodeNoneWalk
import Derived.Test.YtfmcddomciicdaaDoorUniform
set_option linter.unusedVariables false
set_option linter.unusedSimpArgs false
set_option maxRecDepth 100000
namespace Go.Proofs.YtfmcddomciicdaaDoor
open Go Go.RowKit

/-- A store of so many nodes and nothing else. -/
structure Nodes (S : Slb) (T : HTbl) (H : List Ent) (R : List Rc) (q m : Int) (k : Nat) : Prop where
  inv : StInv S T H R
  quo : S.quota = q
  most : T.most = m
  len : R.length = k
  live : ∀ r ∈ R, 0 ≤ r.a
  six : ∀ r ∈ R, r.w.length = 6
  op : T.AllOpen

section
variable {S S' : Slb} {T T' : HTbl} {H H' : List Ent} {R R' : List Rc} {q m : Int} {k : Nat}
theorem Nodes.count (N : Nodes S T H R q m k) : (k : Int) + S.spare 4 = 6 * (S.pg.length : Int) ∧ 0 ≤ S.spare 4 := by
  have h := N.inv.uniform (L := 6) (by omega) (fun r hr => N.six r (List.mem_filter.1 hr).1)
  rw [liveR_all N.live, N.len, show clsOf ((6 : Nat) + 2 : Int) = 4 from rfl] at h
  have h2 : 0 ≤ S.spare ((4 : Nat) : Int) := by rw [N.inv.rep.spare_eq (by omega)]; exact (spareL_range _ _).1
  exact ⟨h, h2⟩
theorem Nodes.fit (N : Nodes S T H R q m k) : 64 * (S.pg.length : Int) ≤ q := by
  have := N.inv.rep.ok.fit
  rw [N.quo] at this
  exact this
/-- What is made of a node more. -/
theorem Nodes.made (N : Nodes S T H R q m k) {hd er : Int} (M : Made S T H R 6 hd er S' T' H' R') :
    ((k : Int) < m ∧ (k : Int) < 6 * (q / 64) → er = 0 ∧ T'.AllOpen ∧ T'.most = m) ∧ ((k : Int) = 6 * (q / 64) → er = 3) ∧ ((k : Int) = m → (k : Int) < 6 * (q / 64) → er = 10) := by
  have hr := N.inv.made_room N.op (L := 6) (by omega) M
  rw [show clsOf ((6 : Nat) + 2 : Int) = 4 from rfl, liveR_all N.live, N.len, N.most, N.quo] at hr
  obtain ⟨hc, hs⟩ := N.count
  have hf := N.fit
  have hs' : 0 ≤ S.spare ((4 : Nat) : Int) := hs
  have hc' : (k : Int) + S.spare ((4 : Nat) : Int) = 6 * (S.pg.length : Int) := hc
  have hmost : er = 0 → T'.most = m := fun he => by
    cases M with
    | arg => exact N.most
    | quota => exact N.most
    | full => exact N.most
    | ok => exact N.most
  refine ⟨fun h => ?_, fun h => ?_, fun h1 h2 => ?_⟩
  · rcases hr with ⟨e, h1, h2⟩ | ⟨e, h1, h2⟩ | ⟨e, h1, h2, h3⟩
    · omega
    · omega
    · exact ⟨e, h3, hmost e⟩
  · rcases hr with ⟨e, h1, h2⟩ | ⟨e, h1, h2⟩ | ⟨e, h1, h2, h3⟩
    · exact e
    · omega
    · omega
  · rcases hr with ⟨e, h3, h4⟩ | ⟨e, h3, h4⟩ | ⟨e, h3, h4, h5⟩
    · omega
    · exact e
    · omega
theorem Nodes.next (N : Nodes S T H R q m k) {hd : Int} {S2 : Slb} {a : Nat} {x0 x1 x2 x3 x4 x5 : Int} (I : StInv S2 T' H' (R ++ [⟨hd, (a : Int), [x0, x1, x2, x3, x4, x5]⟩])) (hq : S2.quota = q) (hm : T'.most = m) (ho : T'.AllOpen) :
    Nodes S2 T' H' (R ++ [⟨hd, (a : Int), [x0, x1, x2, x3, x4, x5]⟩]) q m (k + 1) :=
  ⟨I, hq, hm, by rw [List.length_append, N.len]; rfl, fun r hr => by
    rcases List.mem_append.1 hr with hr | hr
    · exact N.live r hr
    · rw [List.mem_singleton.1 hr]; exact Int.natCast_nonneg a, fun r hr => by
    rcases List.mem_append.1 hr with hr | hr
    · exact N.six r hr
    · rw [List.mem_singleton.1 hr]; rfl, ho⟩
end

def RoomRel (w : World) (bx b : Nat) (x0 x1 x2 x3 x4 x5 : Int) (q m : Int) (k : Nat) (wr : World) : Prop := ∃ (S : Slb) (T : HTbl) (H : List Ent) (R : List Rc), Nodes S T H R q m k ∧
  Sep No w wr [cellsAt bx #[.int .u64 x0, .int .u64 x1, .int .u64 x2, .int .u64 x3, .int .u64 x4, .int .u64 x5] 58, stR b m 9 S T]

set_option maxHeartbeats 4000000 in
theorem room_in10 (q : Nat) (m : Nat) (hq : q ≤ 640) (hm : 1 ≤ m ∧ m ≤ 100) (x0 x1 x2 x3 x4 x5 : Int) (w : World) (hx : ∀ x ∈ [x0, x1, x2, x3, x4, x5], 0 ≤ x ∧ x < 18446744073709551616) (hT : Tab64 w) :
    Calls Tryd.prog 8 #[.int .i64 (q : Nat), .int .i64 (m : Nat), nodeV x0 x1 x2 x3 x4 x5] w fun e w' => e = .returned (.bool true) ∧ Below w.heap.size w w' := by
  have HT := Lib.hid hT
  have HX := Lib.hid hx
  have d1 : decide ((q : Int) < 0) = false := ltF (by omega)
  have d2 : decide (640 < (q : Int)) = false := ltF (by omega)
  have d3 : decide ((m : Int) < 1) = false := ltF (by omega)
  have d4 : decide (100 < (m : Int)) = false := ltF (by omega)
  have hB := (Sep.nil w).pushCells #[.int .u64 x0, .int .u64 x1, .int .u64 x2, .int .u64 x3, .int .u64 x4, .int .u64 x5] 58
  obtain ⟨bx, hbx⟩ : ∃ x, w.heap.size = x := ⟨_, rfl⟩
  obtain ⟨W1, hW1⟩ : ∃ x, w.alloc (.cells #[.int .u64 x0, .int .u64 x1, .int .u64 x2, .int .u64 x3, .int .u64 x4, .int .u64 x5] 58) = x := ⟨_, rfl⟩
  rw [hW1, hbx] at hB
  have hn := stnew_call hB (q : Int) (m : Int) 9 (by omega) (by omega) (by omega) (by omega) (by omega) (by omega)
  obtain ⟨c, hc⟩ : ∃ c, 6 * (q / 64) = c := ⟨_, rfl⟩
  have hcq : 6 * ((q : Int) / 64) = (c : Int) := by omega
  have hct : 6 * ((q : Int).tdiv 64) = (c : Int) := by rw [Int.tdiv_eq_ediv_of_nonneg (by omega)]; exact hcq
  obtain ⟨hm1, hm2⟩ := hm
  obtain ⟨mn, hmn⟩ : ∃ x, min m c = x := ⟨_, rfl⟩
  have hmi : min (m : Int) (c : Int) = (mn : Int) := by omega
  have hmm : mn ≤ m ∧ mn ≤ c ∧ (mn = m ∨ mn = c) := by omega
  have HC := Lib.hid (And.intro hcq hmm)
  clear hT hB hx hmn hmm
  go_enter Tryd.func8, Tryd.ntmps8
  go_wp2_with fail
  refine hn.mono ?_
  rintro e w1 ⟨b, rfl, h1⟩
  have h1 : Sep No w w1 [cellsAt bx #[.int .u64 x0, .int .u64 x1, .int .u64 x2, .int .u64 x3, .int .u64 x4, .int .u64 x5] 58, stR b m 9 (Slb.empty q) ⟨m, 9, []⟩] := h1
  have hst : Hid (RoomRel w bx b x0 x1 x2 x3 x4 x5 q m 0 w1) := ⟨_, _, [], [], ⟨StInv.start (q := (q : Int)) (m := (m : Int)) (l := 9) (by omega) (by omega) (by omega) (by omega) (by omega) (by omega), rfl, rfl, rfl, by simp, by simp, HTbl.AllOpen.new⟩, h1⟩
  clear hn hbx hW1 h1
  go_wp2_with fail
  go_loopw [10] (fun iv wr => ∃ k : Nat, iv = .int .i64 k ∧ k ≤ mn ∧ RoomRel w bx b x0 x1 x2 x3 x4 x5 q m k wr) (fun iv _ => mn - (RowKit.intOf iv).toNat)
  case atStart => exact ⟨0, rfl, Nat.zero_le _, hst.out⟩
  case round =>
    obtain ⟨k, rfl, hk, S, T, H, R, N, h⟩ := hrel
    clear hst
    obtain ⟨k0, k1, k2, k3, k4, k5⟩ := h.six 0 rfl
    obtain ⟨hd, er, S', T', H', R', M⟩ := N.inv.made 6
    have NM := N.made M
    rw [HC.out.1] at NM
    have hcm := HC.out.2
    by_cases hlt : k < mn
    · obtain ⟨rfl, ho, hmo⟩ := NM.1 (by omega)
      have hc := nmake_ok h 1 rfl (HT.out.mod h.mod) M HX.out
      have hquo := M.quo.trans N.quo
      have hrg := M.range
      have HN := Lib.hid (And.intro N (And.intro hquo (And.intro hmo ho)))
      clear h NM M N hquo hmo ho hcm
      go_wp2_with fail
      refine hc.mono ?_
      rintro e w2 ⟨⟨S2, a⟩, ⟨rfl, I2, _, hq2⟩, h2⟩
      have h2 : Sep No w w2 [cellsAt bx #[.int .u64 x0, .int .u64 x1, .int .u64 x2, .int .u64 x3, .int .u64 x4, .int .u64 x5] 58, stR b m 9 S2 T'] := h2
      dsimp only at I2 hq2
      have N2 := HN.out.1.next I2 (hq2.trans HN.out.2.1) HN.out.2.2.1 HN.out.2.2.2
      have hj : (R ++ [(⟨hd, (a : Int), [x0, x1, x2, x3, x4, x5]⟩ : Rc)])[R.length]? = some ⟨hd, (a : Int), [x0, x1, x2, x3, x4, x5]⟩ := by rw [List.getElem?_append_right (Nat.le_refl _), Nat.sub_self]; rfl
      have hg := nget_ok h2 1 rfl I2 (hh := hd) ⟨hrg.1, hrg.2.1⟩ ⟨hj, Int.natCast_nonneg a, rfl⟩ rfl
      have HN2 := Lib.hid N2
      have H2 := Lib.hid h2
      clear hc h2 I2 hq2 N2 hj HN k0 k1 k2 k3 k4 k5
      go_wp2_with fail
      refine hg.mono ?_
      rintro e w3 ⟨rfl, hm3⟩
      have h3 : Sep No w (w3.alloc (.cells #[.int .u64 x0, .int .u64 x1, .int .u64 x2, .int .u64 x3, .int .u64 x4, .int .u64 x5] 58)) [cellsAt bx #[.int .u64 x0, .int .u64 x1, .int .u64 x2, .int .u64 x3, .int .u64 x4, .int .u64 x5] 58, stR b m 9 S2 T', cellsAt w3.heap.size #[.int .u64 x0, .int .u64 x1, .int .u64 x2, .int .u64 x3, .int .u64 x4, .int .u64 x5] 58] := (H2.out.more hm3).pushCells _ _
      obtain ⟨k0, k1, k2, k3, k4, k5⟩ := h3.six 0 rfl
      obtain ⟨p0, p1, p2, p3, p4, p5⟩ := h3.six 2 rfl
      have H3 : Hid (RoomRel w bx b x0 x1 x2 x3 x4 x5 q m (k + 1) (w3.alloc (.cells #[.int .u64 x0, .int .u64 x1, .int .u64 x2, .int .u64 x3, .int .u64 x4, .int .u64 x5] 58))) := ⟨S2, T', H', _, HN2.out, Sep.left (Ps := [_, _]) h3⟩
      clear hg hm3 H2 h3 HN2
      go_wp2
      go_roundw
      case rel => exact ⟨k + 1, by go_num, by omega, H3.out⟩
      case measure => simp [RowKit.intOf]; omega
    · obtain rfl : k = mn := by omega
      have hN := Lib.hid N
      have hfin : (er = 3 ∧ ((k : Int) == (c : Int)) = true) ∨ (er = 10 ∧ ((k : Int) == (c : Int)) = false) := by
        by_cases e : k = c
        · exact .inl ⟨NM.2.1 (by omega), beqT (by omega)⟩
        · exact .inr ⟨NM.2.2 (by omega) (by omega), beqF (by omega)⟩
      have he : er ≠ 0 := by omega
      have hc := nmake_no h 1 rfl (HT.out.mod h.mod) M he x0 x1 x2 x3 x4 x5
      obtain ⟨_, hR', _, _⟩ := M.err he
      have hal : (stAll S').length = k := by
        have := M.inv.all_len
        rw [hR', liveR_all N.live, N.len] at this
        exact this
      have HA := Lib.hid hal
      clear h NM M N hR' hal hlt hcm he
      rcases hfin with ⟨rfl, d⟩ | ⟨rfl, d⟩
      · go_wp2_with fail
        refine hc.mono ?_
        rintro e w2 ⟨rfl, h2⟩
        have ha := stall_call h2 1 rfl
        rw [HA.out] at ha
        clear hc h2
        go_wp2_with fail
        refine ha.mono ?_
        rintro e w3 ⟨sa, ca, rfl, h3⟩
        have HM := Lib.hid h3.mod
        clear ha h3
        have ha := awake10_call w3 (HT.out.mod HM.out)
        go_wp2_with fail
        refine ha.mono ?_
        rintro e w9 ⟨rfl, hm9⟩
        have H9 := Lib.hid (HM.out.trans' hm9)
        clear ha hm9
        go_wp2
        go_ret
        exact ⟨rfl, H9.out.below _ (Nat.le_refl _) (fun _ _ x => x)⟩
      · go_wp2_with fail
        refine hc.mono ?_
        rintro e w2 ⟨rfl, h2⟩
        have ha := stall_call h2 1 rfl
        rw [HA.out] at ha
        clear hc h2
        go_wp2_with fail
        refine ha.mono ?_
        rintro e w3 ⟨sa, ca, rfl, h3⟩
        have HM := Lib.hid h3.mod
        clear ha h3
        have ha := awake10_call w3 (HT.out.mod HM.out)
        go_wp2_with fail
        refine ha.mono ?_
        rintro e w9 ⟨rfl, hm9⟩
        have H9 := Lib.hid (HM.out.trans' hm9)
        clear ha hm9
        go_wp2
        go_ret
        exact ⟨rfl, H9.out.below _ (Nat.le_refl _) (fun _ _ x => x)⟩

theorem nodeRoom_walk (a0 a1 : Int) (a2 : List Int) (w : World) (w0 : (Lit.int .i64 a0).wf = true) (w1 : (Lit.int .i64 a1).wf = true) (w2 : Kinds [some .u64, some .u64, some .u64, some .u64, some .u64, some .u64] a2) (hT : Tab64 w) :
    Calls Tryd.prog 8 #[.int .i64 a0, .int .i64 a1, .agg (List.zipWith fv [some .u64, some .u64, some .u64, some .u64, some .u64, some .u64] a2).toArray] w fun e w' => e = .returned (.bool true) ∧ Below w.heap.size w w' := by
  obtain ⟨x0, x1, x2, x3, x4, x5, rfl, hx⟩ := kinds_six w2
  show Calls Tryd.prog 8 #[.int .i64 a0, .int .i64 a1, nodeV x0 x1 x2 x3 x4 x5] w _
  by_cases hall : (0 ≤ a0 ∧ a0 ≤ 640) ∧ 1 ≤ a1 ∧ a1 ≤ 100
  · obtain ⟨q, rfl⟩ := Int.eq_ofNat_of_zero_le (show 0 ≤ a0 by omega)
    obtain ⟨m, rfl⟩ := Int.eq_ofNat_of_zero_le (show 0 ≤ a1 by omega)
    exact room_in10 q m (by omega) (by omega) x0 x1 x2 x3 x4 x5 w hx hT
  · have HM := Lib.hid ((Mod.refl No w).alloc (.cells #[.int .u64 x0, .int .u64 x1, .int .u64 x2, .int .u64 x3, .int .u64 x4, .int .u64 x5] 58))
    have HT := Lib.hid hT
    clear hT hx
    have hd : decide (a0 < 0) = true ∨ decide (a0 < 0) = false ∧ decide (640 < a0) = true ∨ decide (a0 < 0) = false ∧ decide (640 < a0) = false ∧ decide (a1 < 1) = true ∨ decide (a0 < 0) = false ∧ decide (640 < a0) = false ∧ decide (a1 < 1) = false ∧ decide (100 < a1) = true := by
      by_cases h1 : a0 < 0
      · exact .inl (ltT h1)
      · by_cases h2 : 640 < a0
        · exact .inr (.inl ⟨ltF (by omega), ltT h2⟩)
        · by_cases h3 : a1 < 1
          · exact .inr (.inr (.inl ⟨ltF (by omega), ltF (by omega), ltT h3⟩))
          · exact .inr (.inr (.inr ⟨ltF (by omega), ltF (by omega), ltF (by omega), ltT (by omega)⟩))
    clear hall
    rcases hd with d1 | ⟨d1, d2⟩ | ⟨d1, d2, d3⟩ | ⟨d1, d2, d3, d4⟩
    · go_enter Tryd.func8, Tryd.ntmps8
      have ha := awake10_call (w.alloc (.cells #[.int .u64 x0, .int .u64 x1, .int .u64 x2, .int .u64 x3, .int .u64 x4, .int .u64 x5] 58)) (HT.out.mod HM.out)
      go_wp2_with fail
      refine ha.mono ?_
      rintro e w9 ⟨rfl, hm9⟩
      have H9 := Lib.hid (HM.out.trans' hm9)
      clear ha hm9
      go_wp2
      go_ret
      exact ⟨rfl, H9.out.below _ (Nat.le_refl _) (fun _ _ x => x)⟩
    · go_enter Tryd.func8, Tryd.ntmps8
      have ha := awake10_call (w.alloc (.cells #[.int .u64 x0, .int .u64 x1, .int .u64 x2, .int .u64 x3, .int .u64 x4, .int .u64 x5] 58)) (HT.out.mod HM.out)
      go_wp2_with fail
      refine ha.mono ?_
      rintro e w9 ⟨rfl, hm9⟩
      have H9 := Lib.hid (HM.out.trans' hm9)
      clear ha hm9
      go_wp2
      go_ret
      exact ⟨rfl, H9.out.below _ (Nat.le_refl _) (fun _ _ x => x)⟩
    · go_enter Tryd.func8, Tryd.ntmps8
      have ha := awake10_call (w.alloc (.cells #[.int .u64 x0, .int .u64 x1, .int .u64 x2, .int .u64 x3, .int .u64 x4, .int .u64 x5] 58)) (HT.out.mod HM.out)
      go_wp2_with fail
      refine ha.mono ?_
      rintro e w9 ⟨rfl, hm9⟩
      have H9 := Lib.hid (HM.out.trans' hm9)
      clear ha hm9
      go_wp2
      go_ret
      exact ⟨rfl, H9.out.below _ (Nat.le_refl _) (fun _ _ x => x)⟩
    · go_enter Tryd.func8, Tryd.ntmps8
      have ha := awake10_call (w.alloc (.cells #[.int .u64 x0, .int .u64 x1, .int .u64 x2, .int .u64 x3, .int .u64 x4, .int .u64 x5] 58)) (HT.out.mod HM.out)
      go_wp2_with fail
      refine ha.mono ?_
      rintro e w9 ⟨rfl, hm9⟩
      have H9 := Lib.hid (HM.out.trans' hm9)
      clear ha hm9
      go_wp2
      go_ret
      exact ⟨rfl, H9.out.below _ (Nat.le_refl _) (fun _ _ x => x)⟩
end Go.Proofs.YtfmcddomciicdaaDoor
