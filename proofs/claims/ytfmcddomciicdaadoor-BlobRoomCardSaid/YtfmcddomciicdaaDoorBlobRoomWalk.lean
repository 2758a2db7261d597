/- BlobRoom, walked. Condition: the table of math/bits holds what its initialiser lays. -/
import Derived.Test.YtfmcddomciicdaaDoorBlobSameWalk
set_option linter.unusedVariables false
set_option linter.unusedSimpArgs false
set_option maxRecDepth 100000
namespace Go.Proofs.YtfmcddomciicdaaDoor
open Go Go.RowKit

set_option maxHeartbeats 2000000 in
theorem room_in09 (s : ByteArray) (hs : s.size ≤ 1000) (w : World) (hT : Tab64 w) :
    Calls Tryd.prog 10 #[.string s] w fun e w' => e = .returned (.bool true) ∧ Below w.heap.size w w' := by
  obtain ⟨L, hL⟩ : ∃ L, L = 1 + (s.size + 7) / 8 := ⟨_, rfl⟩
  obtain ⟨n, hn⟩ : ∃ n, Slb.pagesOf ((L : Int) + 2) = n := ⟨_, rfl⟩
  have HT := Lib.hid hT
  have HL := Lib.hid hL
  have hL1 : 1 ≤ L ∧ L ≤ 126 := by omega
  have hp : 1 ≤ n ∧ n ≤ 3 ∧ ((L : Int) + 4 + 63) / 64 = (n : Int) := by
    rw [← hn]; unfold Slb.pagesOf; split
    · refine ⟨?_, ?_, ?_⟩ <;> omega
    · refine ⟨?_, ?_, ?_⟩ <;> omega
  have HP := Lib.hid (And.intro hn hp)
  obtain ⟨hn1, hn2, hn3⟩ := hp
  have d1 : decide ((1000 : Int) < (s.size : Int)) = false := ltF (by omega)
  have hce := cost_eq hs hL
  have HS := Lib.hid hs
  have e1 : IntKind.i64.wrap ((L : Int) + 2 + 2) = (L : Int) + 4 := by rw [IntKind.wrap_i64]; omega
  have e2 : IntKind.i64.wrap ((L : Int) + 4 + 63) = (L : Int) + 4 + 63 := by rw [IntKind.wrap_i64]; omega
  have e3 : ((L : Int) + 4 + 63).tdiv 64 = (n : Int) := by rw [Int.tdiv_eq_ediv_of_nonneg (by omega)]; exact hn3
  have e3' : (L : Int) + 2 + 2 = (L : Int) + 4 := by omega
  have e4 : IntKind.i64.wrap (64 * (n : Int)) = 64 * (n : Int) := by rw [IntKind.wrap_i64]; omega
  have e5 : IntKind.i64.wrap (64 * (n : Int) - 64) = 64 * (n : Int) - 64 := by rw [IntKind.wrap_i64]; omega
  have c0 := cost_call (s.size : Int) w
  rw [hce] at c0
  clear hT hL hn hs hce hn3
  go_enter Tryd.func10, Tryd.ntmps10
  go_wp2_with fail
  refine c0.mono ?_
  rintro e w' ⟨rfl, rfl⟩
  clear c0
  go_wp2_with fail
  refine (stnew_call (Sep.nil w) (64 * (n : Int)) 9 9 (by omega) (by omega) (by omega) (by omega) (by omega) (by omega)).mono ?_
  rintro e w1 ⟨b, rfl, h1⟩
  have c1 := stnew_call h1 (64 * (n : Int) - 64) 9 9 (by omega) (by omega) (by omega) (by omega) (by omega) (by omega)
  clear h1
  go_wp2_with fail
  refine c1.mono ?_
  rintro e w2 ⟨b2, rfl, h2⟩
  have h2 : Sep No w w2 [stR b 9 9 (Slb.empty (64 * (n : Int))) ⟨9, 9, []⟩, stR b2 9 9 (Slb.empty (64 * (n : Int) - 64)) ⟨9, 9, []⟩] := h2
  have c2 := bput_first h2 0 rfl (HT.out.mod h2.mod) HS.out HL.out (by rw [HP.out.1]; omega) (by omega) (by omega) (by omega) (by omega) (by omega)
  clear c1 h2
  go_wp2_with fail
  refine c2.mono ?_
  rintro e w3 ⟨S, T, H, a, rfl, I, hpg, hq, ho, hm, h3⟩
  have h3 : Sep No w w3 [stR b 9 9 S T, stR b2 9 9 (Slb.empty (64 * (n : Int) - 64)) ⟨9, 9, []⟩] := h3
  have I0 := StInv.start (q := 64 * (n : Int) - 64) (m := 9) (l := 9) (by omega) (by omega) (by omega) (by omega) (by omega) (by omega)
  obtain ⟨hd, er, S', T', H', R', M⟩ := I0.made (L : Int)
  obtain rfl := I0.made_quota (by omega) (by omega) (by rw [HP.out.1]; show 64 * (n : Int) - 64 < (0 + (n : Int)) * 64; omega) (fun _ a p N k o => absurd o.ent (by simp)) M
  have hpg2 := (M.err (by omega)).2.2.2
  have hpg2 : S'.pg = [] := hpg2
  have c3 := bput_no h3 1 rfl I0 (HT.out.mod h3.mod) HS.out HL.out M (by omega)
  have HI := Lib.hid (And.intro I hpg)
  clear c2 I hpg hq ho hm h3 M I0
  go_wp2_with fail
  refine c3.mono ?_
  rintro e w4 ⟨rfl, h4⟩
  have h4 : Sep No w w4 [stR b 9 9 S T, stR b2 9 9 S' T'] := h4
  have c4 := bget_ok h4 0 rfl HI.out.1 (hh := 4294967297) (by omega) (j := 0) (r := ⟨4294967297, (a : Int), Txt.tw s⟩) ⟨rfl, Int.natCast_nonneg a, rfl⟩ HS.out rfl
  have H4 := Lib.hid h4
  clear c3 h4
  go_wp2_with fail
  refine c4.mono ?_
  rintro e w5 ⟨rfl, hm5⟩
  have h5 := H4.out.more hm5
  have c5 := stwords_call h5 0 rfl
  rw [show (S.pg.length : Int) = (n : Int) by rw [HI.out.2, HP.out.1]] at c5
  have H5 := Lib.hid h5
  clear c4 hm5 h5
  go_wp2_with fail
  refine c5.mono ?_
  rintro e w6 ⟨rfl, h6⟩
  have c6 := stwords_call h6 1 rfl
  rw [hpg2] at c6
  clear c5 h6
  go_wp2_with fail
  refine c6.mono ?_
  rintro e w7 ⟨rfl, h7⟩
  have HM := Lib.hid h7.mod
  clear c6 h7
  go_wp2_with fail
  have ha := awake09_call w7 (HT.out.mod HM.out)
  go_wp2_with fail
  refine ha.mono ?_
  rintro e w9 ⟨rfl, hm9⟩
  have H9 := Lib.hid (HM.out.trans' hm9)
  clear ha hm9
  go_wp2
  go_ret
  exact ⟨rfl, H9.out.below _ (Nat.le_refl _) (fun _ _ x => x)⟩

theorem blobRoom_walk (s : ByteArray) (w : World) (_ : s.size ≤ maxLen) (hT : Tab64 w) :
    Calls Tryd.prog 10 #[.string s] w fun e w' => e = .returned (.bool true) ∧ Below w.heap.size w w' := by
  by_cases h : s.size ≤ 1000
  · exact room_in09 s h w hT
  · have d : decide ((1000 : Int) < (s.size : Int)) = true := ltT (by omega)
    have HT := Lib.hid hT
    have HM := Lib.hid (Mod.refl No w)
    clear hT h
    go_enter Tryd.func10, Tryd.ntmps10
    go_wp2_with fail
    have ha := awake09_call w (HT.out.mod HM.out)
    go_wp2_with fail
    refine ha.mono ?_
    rintro e w9 ⟨rfl, hm9⟩
    have H9 := Lib.hid (HM.out.trans' hm9)
    clear ha hm9
    go_wp2
    go_ret
    exact ⟨rfl, H9.out.below _ (Nat.le_refl _) (fun _ _ x => x)⟩
end Go.Proofs.YtfmcddomciicdaaDoor
