/- BnodeRoom, walked. Condition: the table of math/bits holds what its initialiser lays. -/
import Derived.Test.YtfmcddomciicdaaDoorAwake15
set_option linter.unusedVariables false
set_option linter.unusedSimpArgs false
set_option maxRecDepth 100000
namespace Go.Proofs.YtfmcddomciicdaaDoor
open Go Go.RowKit

/-- A store of so many nodes of a degree and nothing else. -/
structure BNs (S : Slb) (T : HTbl) (H : List Ent) (R : List Rc) (q : Int) (n6 k : Nat) : Prop where
  inv : StInv S T H R
  quo : S.quota = q
  most : T.most = 100
  len : R.length = k
  live : ∀ r ∈ R, 0 ≤ r.a
  op : T.AllOpen
  room : k = 0 ∨ (Slb.pagesOf ((n6 : Int) + 2) : Int) * 64 ≤ q

section
variable {S S' : Slb} {T T' : HTbl} {H H' : List Ent} {R R' : List Rc} {q : Int} {n6 k : Nat}
theorem BNs.made (N : BNs S T H R q n6 k) (hk : k < 100) (h6 : n6 ≤ 96) {hd er : Int} (M : Made S T H R (n6 : Int) hd er S' T' H' R') :
    (er = 0 ∧ (Slb.pagesOf ((n6 : Int) + 2) : Int) * 64 ≤ q) ∨ (er = 3 ∧ (k = 0 → q < (Slb.pagesOf ((n6 : Int) + 2) : Int) * 64)) := by
  have hlv := liveR_all N.live
  have hf := N.op.noret.full N.inv.tok
  rw [N.inv.live, hlv, N.len, N.most] at hf
  have hempty : k = 0 → S.pg = [] ∧ H = [] := fun h => by
    have hR : R = [] := List.length_eq_zero_iff.1 (N.len.trans h)
    have := N.inv.empty_pg (by rw [hR]; rfl)
    exact ⟨this.2, this.1⟩
  have hz : er = 0 → (Slb.pagesOf ((n6 : Int) + 2) : Int) * 64 ≤ q := fun he => by
    rcases N.room with h0 | h
    · obtain ⟨hp, hH⟩ := hempty h0
      refine Classical.byContradiction fun hlt => ?_
      have := N.inv.made_quota (n := (n6 : Int)) (by omega) (by omega) (by rw [hp, N.quo]; show q < (0 + _) * 64; omega) (fun _ a p N' k o => by have := o.ent; rw [hH] at this; simp at this) M
      omega
    · exact h
  cases M with
  | arg hn => omega
  | quota h0 hl e hq ho I => exact .inr ⟨rfl, fun h => by rw [(hempty h).1, N.quo] at hq; simp only [List.length_nil] at hq; omega⟩
  | full h0 hl a S1 H1 e ha A W hf' => rw [N.most] at hf'; omega
  | ok => exact .inl ⟨rfl, hz rfl⟩
theorem BNs.next (N : BNs S T H R q n6 k) {hd : Int} {S2 : Slb} {a : Nat} {ws : List Int} (I : StInv S2 T' H' (R ++ [⟨hd, (a : Int), ws⟩])) (hq : S2.quota = q) (hm : T'.most = 100) (ho : T'.AllOpen) (hr : (Slb.pagesOf ((n6 : Int) + 2) : Int) * 64 ≤ q) :
    BNs S2 T' H' (R ++ [⟨hd, (a : Int), ws⟩]) q n6 (k + 1) :=
  ⟨I, hq, hm, by rw [List.length_append, N.len]; rfl, fun r hr => by
    rcases List.mem_append.1 hr with hr | hr
    · exact N.live r hr
    · rw [List.mem_singleton.1 hr]; exact Int.natCast_nonneg a, ho, .inr hr⟩
end

def BRoomRel (w : World) (b : Nat) (q : Int) (n6 k : Nat) (wr : World) : Prop := ∃ (S : Slb) (T : HTbl) (H : List Ent) (R : List Rc), BNs S T H R q n6 k ∧ Sep No w wr [stR b 100 9 S T]


set_option maxHeartbeats 4000000 in
theorem room_in15 (t q : Nat) (ht : 2 ≤ t ∧ t ≤ 16) (hq : q ≤ 4000) (w : World) (hT : Tab64 w) :
    Calls Tryd.prog 11 #[.int .i64 (t : Nat), .int .i64 (q : Nat)] w fun e w' => e = .returned (.bool true) ∧ Below w.heap.size w w' := by
  have HT := Lib.hid hT
  obtain ⟨n6, hn6⟩ : ∃ n, 6 * t = n := ⟨_, rfl⟩
  obtain ⟨p, hp⟩ : ∃ p, Slb.pagesOf ((n6 : Int) + 2) = p := ⟨_, rfl⟩
  have hpe : ((n6 : Int) + 2 + 65) / 64 = (p : Int) ∧ p ≤ 3 := by rw [← hp]; unfold Slb.pagesOf; split <;> (refine ⟨?_, ?_⟩ <;> omega)
  have h96 : n6 ≤ 96 ∧ 12 ≤ n6 := by omega
  have d1 : decide ((t : Int) < 2) = false := ltF (by omega)
  have d2 : decide ((16 : Int) < (t : Int)) = false := ltF (by omega)
  have d3 : decide ((q : Int) < 0) = false := ltF (by omega)
  have d4 : decide ((4000 : Int) < (q : Int)) = false := ltF (by omega)
  have e1 : IntKind.i64.wrap (6 * (t : Int)) = (n6 : Int) := by rw [IntKind.wrap_i64]; omega
  have e1' : 6 * (t : Int) = (n6 : Int) := by omega
  have e2 : IntKind.i64.wrap ((n6 : Int) + 2) = (n6 : Int) + 2 := by rw [IntKind.wrap_i64]; omega
  have e3 : IntKind.i64.wrap ((n6 : Int) + 2 + 65) = (n6 : Int) + 2 + 65 := by rw [IntKind.wrap_i64]; omega
  have e4 : ((n6 : Int) + 2 + 65).tdiv 64 = (p : Int) := by rw [Int.tdiv_eq_ediv_of_nonneg (by omega)]; exact hpe.1
  have e5 : IntKind.i64.wrap (p : Int) = (p : Int) := by rw [IntKind.wrap_i64]; omega
  have e6 : IntKind.i64.wrap (64 * (p : Int)) = 64 * (p : Int) := by rw [IntKind.wrap_i64]; omega
  have HP := Lib.hid (And.intro hp (And.intro hn6 ht))
  have hn := stnew_call (Sep.nil w) (q : Int) 100 9 (by omega) (by omega) (by omega) (by omega) (by omega) (by omega)
  clear hT hp hpe hn6
  go_enter Tryd.func11, Tryd.ntmps11
  go_wp2_with fail
  refine hn.mono ?_
  rintro e w1 ⟨b, rfl, h1⟩
  have h1 : Sep No w w1 [stR b 100 9 (Slb.empty q) ⟨100, 9, []⟩] := h1
  have hst : Hid (BRoomRel w b q n6 0 w1) := ⟨_, _, [], [], ⟨StInv.start (q := (q : Int)) (m := 100) (l := 9) (by omega) (by omega) (by omega) (by omega) (by omega) (by omega), rfl, rfl, rfl, by simp, HTbl.AllOpen.new, .inl rfl⟩, h1⟩
  clear hn h1
  go_wp2_with fail
  go_loopw [7, 8] (fun mv iv wr => ∃ k : Nat, mv = .int .i64 k ∧ iv = .int .i64 k ∧ k ≤ 100 ∧ BRoomRel w b q n6 k wr) (fun _ iv _ => 100 - (RowKit.intOf iv).toNat)
  case atStart => exact ⟨0, rfl, rfl, Nat.zero_le _, hst.out⟩
  case round =>
    obtain ⟨k, rfl, rfl, hk, S, T, H, R, N, h⟩ := hrel
    clear hst
    by_cases hlt : k < 100
    · obtain ⟨hd, er, S', T', H', R', M⟩ := N.inv.made (n6 : Int)
      have hfit : Nd.fitB (t : Int) ⟨[], [], [], (k : Int)⟩ = true := by
        have := HP.out.2.2
        simp [Nd.fitB, Nd.degB, Nd.kidsB]
        omega
      have ek : IntKind.u64.wrap (k : Int) = (k : Int) := by rw [IntKind.wrap_u64]; omega
      rcases N.made hlt h96.1 M with ⟨rfl, hr⟩ | ⟨rfl, hr⟩
      · have hc := bnmake_ok (sk := none) (sv := none) (sc := none) (ck := 0) (cv := 0) (cc := 0) (x := ⟨[], [], [], (k : Int)⟩) (t := t) h 0 rfl N.inv (HT.out.mod h.mod) (fun wr S1 T1 _ => ⟨HasR.nil _ _, HasR.nil _ _, HasR.nil _ _⟩)
          ⟨by intro v hv; simp at hv, by intro v hv; simp at hv, by intro v hv; simp at hv, by dsimp only; omega⟩ (by unfold maxLen; simp) (by unfold maxLen; simp) hfit HP.out.2.1 M
        have HN := Lib.hid (And.intro N (And.intro (M.quo.trans N.quo) (And.intro (M.most.trans N.most) (And.intro (M.allOpen N.op) hr))))
        clear h M N hr hfit
        go_wp2_with fail
        refine hc.mono ?_
        rintro e w2 ⟨⟨S2, a⟩, ⟨rfl, I2, _, hq2⟩, h2⟩
        have h2 : Sep No w w2 [stR b 100 9 S2 T'] := h2
        dsimp only at I2 hq2
        have H2 : Hid (BRoomRel w b q n6 (k + 1) w2) := ⟨S2, T', H', _, HN.out.1.next I2 (hq2.trans HN.out.2.1) HN.out.2.2.1 HN.out.2.2.2.1 HN.out.2.2.2.2, h2⟩
        clear hc h2 I2 hq2 HN
        go_wp2
        go_roundw
        case rel => exact ⟨k + 1, by go_num, by go_num, by omega, H2.out⟩
        case measure => simp [RowKit.intOf]; omega
      · have hc := bnmake_no (sk := none) (sv := none) (sc := none) (ck := 0) (cv := 0) (cc := 0) (x := ⟨[], [], [], (k : Int)⟩) (t := t) h 0 rfl N.inv (HT.out.mod h.mod) (HasR.nil _ _) (by unfold maxLen; simp) (by unfold maxLen; simp) hfit HP.out.2.1 M (by omega)
        obtain ⟨_, hR', _, hpg⟩ := M.err (by omega)
        have hal : (stAll S').length = k := by
          have h1 := M.inv.all_len
          rw [hR', liveR_all N.live, N.len] at h1
          exact h1
        have hfq := M.inv.rep.ok.fit
        rw [M.quo, N.quo] at hfq
        obtain ⟨z, hz⟩ : ∃ z, S'.pg.length = z := ⟨_, rfl⟩
        rw [hz] at hfq
        have d5 : decide (64 * (z : Int) ≤ (q : Int)) = true := leT hfq
        have hdd : ((decide (0 < k) = true ∧ 0 < k) ∧ decide (64 * (p : Int) ≤ (q : Int)) = true) ∨ ((decide (0 < k) = false ∧ ¬ 0 < k) ∧ decide (64 * (p : Int) ≤ (q : Int)) = false) := by
          rw [HP.out.1] at hr
          by_cases hk0 : k = 0
          · exact .inr ⟨⟨by simp [hk0], by omega⟩, leF (by have := hr hk0; omega)⟩
          · rcases N.room with h0 | h0
            · exact absurd h0 hk0
            · rw [HP.out.1] at h0
              exact .inl ⟨⟨by simp; omega, by omega⟩, leT (by omega)⟩
        have HPG := Lib.hid (And.intro hz hal)
        clear h M N hr hfit hR' hpg hal hfq hz
        have dk : ((k : Int) != (k : Int)) = false := bneF rfl
        have dk2 : ((k : Int) == (k : Int)) = true := beqT rfl
        rcases hdd with ⟨⟨d6, hkp⟩, d7⟩ | ⟨⟨d6, hkp⟩, d7⟩
        · go_wp2_with fail
          refine hc.mono ?_
          rintro e w2 ⟨rfl, h2⟩
          have h2 : Sep No w w2 [stR b 100 9 S' T'] := h2
          have ha := stall_call h2 0 rfl
          rw [HPG.out.2] at ha
          clear hc h2
          go_wp2_with fail
          refine ha.mono ?_
          rintro e w3 ⟨sa, ca, rfl, h3⟩
          have h3' : Sep No w w3 [stR b 100 9 S' T'] := Sep.left (Ps := [_]) h3
          have ha := stall_call h3' 0 rfl
          rw [HPG.out.2] at ha
          clear h3 h3'
          go_wp2_with fail
          refine ha.mono ?_
          rintro e w3 ⟨sa, ca, rfl, h3⟩
          have h3' : Sep No w w3 [stR b 100 9 S' T'] := Sep.left (Ps := [_]) h3
          have hw := stwords_call h3' 0 rfl
          rw [HPG.out.1] at hw
          clear ha h3 h3'
          go_wp2_with fail
          refine hw.mono ?_
          rintro e w4 ⟨rfl, h4⟩
          have HM := Lib.hid h4.mod
          clear hw h4
          go_wp2_with fail
          have ha := awake15_call w4 (HT.out.mod HM.out)
          go_wp2_with fail
          refine ha.mono ?_
          rintro e w9 ⟨rfl, hm9⟩
          have H9 := Lib.hid (HM.out.trans' hm9)
          clear ha hm9
          go_wp2
          go_ret
          exact ⟨rfl, H9.out.below _ (Nat.le_refl _) (fun _ _ x => x)⟩
        · go_wp2_with fail
          refine hc.mono ?_
          rintro e w2 ⟨rfl, h2⟩
          have h2 : Sep No w w2 [stR b 100 9 S' T'] := h2
          have ha := stall_call h2 0 rfl
          rw [HPG.out.2] at ha
          clear hc h2
          go_wp2_with fail
          refine ha.mono ?_
          rintro e w3 ⟨sa, ca, rfl, h3⟩
          have h3' : Sep No w w3 [stR b 100 9 S' T'] := Sep.left (Ps := [_]) h3
          have ha := stall_call h3' 0 rfl
          rw [HPG.out.2] at ha
          clear h3 h3'
          go_wp2_with fail
          refine ha.mono ?_
          rintro e w3 ⟨sa, ca, rfl, h3⟩
          have h3' : Sep No w w3 [stR b 100 9 S' T'] := Sep.left (Ps := [_]) h3
          have hw := stwords_call h3' 0 rfl
          rw [HPG.out.1] at hw
          clear ha h3 h3'
          go_wp2_with fail
          refine hw.mono ?_
          rintro e w4 ⟨rfl, h4⟩
          have HM := Lib.hid h4.mod
          clear hw h4
          go_wp2_with fail
          have ha := awake15_call w4 (HT.out.mod HM.out)
          go_wp2_with fail
          refine ha.mono ?_
          rintro e w9 ⟨rfl, hm9⟩
          have H9 := Lib.hid (HM.out.trans' hm9)
          clear ha hm9
          go_wp2
          go_ret
          exact ⟨rfl, H9.out.below _ (Nat.le_refl _) (fun _ _ x => x)⟩
    · obtain rfl : k = 100 := by omega
      have hal : (stAll S).length = 100 := by rw [N.inv.all_len, liveR_all N.live, N.len]
      have hfq := N.inv.rep.ok.fit
      rw [N.quo] at hfq
      obtain ⟨z, hz⟩ : ∃ z, S.pg.length = z := ⟨_, rfl⟩
      rw [hz] at hfq
      have d5 : decide (64 * (z : Int) ≤ (q : Int)) = true := leT hfq
      have d7 : decide (64 * (p : Int) ≤ (q : Int)) = true := by
        rcases N.room with h0 | h0
        · omega
        · rw [HP.out.1] at h0
          exact leT (by omega)
      have HPG := Lib.hid (And.intro hz hal)
      have ha := stall_call h 0 rfl
      rw [hal] at ha
      clear h N hal hfq hz hlt
      go_wp2_with fail
      refine ha.mono ?_
      rintro e w3 ⟨sa, ca, rfl, h3⟩
      have h3' : Sep No w w3 [stR b 100 9 S T] := Sep.left (Ps := [_]) h3
      have hw := stwords_call h3' 0 rfl
      rw [HPG.out.1] at hw
      clear ha h3 h3'
      go_wp2_with fail
      refine hw.mono ?_
      rintro e w4 ⟨rfl, h4⟩
      have HM := Lib.hid h4.mod
      clear hw h4
      go_wp2_with fail
      have ha := awake15_call w4 (HT.out.mod HM.out)
      go_wp2_with fail
      refine ha.mono ?_
      rintro e w9 ⟨rfl, hm9⟩
      have H9 := Lib.hid (HM.out.trans' hm9)
      clear ha hm9
      go_wp2
      go_ret
      exact ⟨rfl, H9.out.below _ (Nat.le_refl _) (fun _ _ x => x)⟩

theorem bnodeRoom_walk (a0 a1 : Int) (w : World) (w0 : (Lit.int .i64 a0).wf = true) (w1 : (Lit.int .i64 a1).wf = true) (hT : Tab64 w) :
    Calls Tryd.prog 11 #[.int .i64 a0, .int .i64 a1] w fun e w' => e = .returned (.bool true) ∧ Below w.heap.size w w' := by
  by_cases hall : (2 ≤ a0 ∧ a0 ≤ 16) ∧ 0 ≤ a1 ∧ a1 ≤ 4000
  · obtain ⟨t, rfl⟩ := Int.eq_ofNat_of_zero_le (show 0 ≤ a0 by omega)
    obtain ⟨q, rfl⟩ := Int.eq_ofNat_of_zero_le (show 0 ≤ a1 by omega)
    exact room_in15 t q (by omega) (by omega) w hT
  · have HM := Lib.hid (Mod.refl No w)
    have HT := Lib.hid hT
    clear hT
    have hd : decide (a0 < 2) = true ∨ decide (a0 < 2) = false ∧ decide (16 < a0) = true ∨ decide (a0 < 2) = false ∧ decide (16 < a0) = false ∧ decide (a1 < 0) = true ∨ decide (a0 < 2) = false ∧ decide (16 < a0) = false ∧ decide (a1 < 0) = false ∧ decide (4000 < a1) = true := by
      by_cases h1 : a0 < 2
      · exact .inl (ltT h1)
      · by_cases h2 : 16 < a0
        · exact .inr (.inl ⟨ltF (by omega), ltT h2⟩)
        · by_cases h3 : a1 < 0
          · exact .inr (.inr (.inl ⟨ltF (by omega), ltF (by omega), ltT h3⟩))
          · exact .inr (.inr (.inr ⟨ltF (by omega), ltF (by omega), ltF (by omega), ltT (by omega)⟩))
    clear hall
    rcases hd with d1 | ⟨d1, d2⟩ | ⟨d1, d2, d3⟩ | ⟨d1, d2, d3, d4⟩
    · go_enter Tryd.func11, Tryd.ntmps11
      have ha := awake15_call w (HT.out.mod HM.out)
      go_wp2_with fail
      refine ha.mono ?_
      rintro e w9 ⟨rfl, hm9⟩
      have H9 := Lib.hid (HM.out.trans' hm9)
      clear ha hm9
      go_wp2
      go_ret
      exact ⟨rfl, H9.out.below _ (Nat.le_refl _) (fun _ _ x => x)⟩
    · go_enter Tryd.func11, Tryd.ntmps11
      have ha := awake15_call w (HT.out.mod HM.out)
      go_wp2_with fail
      refine ha.mono ?_
      rintro e w9 ⟨rfl, hm9⟩
      have H9 := Lib.hid (HM.out.trans' hm9)
      clear ha hm9
      go_wp2
      go_ret
      exact ⟨rfl, H9.out.below _ (Nat.le_refl _) (fun _ _ x => x)⟩
    · go_enter Tryd.func11, Tryd.ntmps11
      have ha := awake15_call w (HT.out.mod HM.out)
      go_wp2_with fail
      refine ha.mono ?_
      rintro e w9 ⟨rfl, hm9⟩
      have H9 := Lib.hid (HM.out.trans' hm9)
      clear ha hm9
      go_wp2
      go_ret
      exact ⟨rfl, H9.out.below _ (Nat.le_refl _) (fun _ _ x => x)⟩
    · go_enter Tryd.func11, Tryd.ntmps11
      have ha := awake15_call w (HT.out.mod HM.out)
      go_wp2_with fail
      refine ha.mono ?_
      rintro e w9 ⟨rfl, hm9⟩
      have H9 := Lib.hid (HM.out.trans' hm9)
      clear ha hm9
      go_wp2
      go_ret
      exact ⟨rfl, H9.out.below _ (Nat.le_refl _) (fun _ _ x => x)⟩
end Go.Proofs.YtfmcddomciicdaaDoor
