/- BlobSame, walked. Condition: the table of math/bits holds what its initialiser lays. -/
import Derived.Test.YtfmcddomciicdaaDoorAwake09
set_option linter.unusedVariables false
set_option linter.unusedSimpArgs false
set_option maxRecDepth 100000
namespace Go.Proofs.YtfmcddomciicdaaDoor
open Go Go.RowKit

theorem cost_eq {s : ByteArray} (hs : s.size ≤ 1000) {L : Nat} (hL : L = 1 + (s.size + 7) / 8) : (if 0 < many (s.size : Int) then many (s.size : Int) + 2 else 0) = (L : Int) + 2 := by
  have : many (s.size : Int) = (L : Int) := by unfold many; rw [if_neg (by omega)]; omega
  rw [this, if_pos (by omega)]

set_option maxHeartbeats 2000000 in
theorem same_in (s : ByteArray) (hs : s.size ≤ 1000) (w : World) (hT : Tab64 w) :
    Calls Tryd.prog 9 #[.string s] w fun e w' => e = .returned (.bool true) ∧ Below w.heap.size w w' := by
  obtain ⟨L, hL⟩ : ∃ L, L = 1 + (s.size + 7) / 8 := ⟨_, rfl⟩
  have HT := Lib.hid hT
  have HL := Lib.hid hL
  have hL1 : 1 ≤ L ∧ L ≤ 126 := by omega
  have hp : Slb.pagesOf ((L : Int) + 2) ≤ 3 := by unfold Slb.pagesOf; split <;> omega
  have HP := Lib.hid hp
  have d1 : decide ((1000 : Int) < (s.size : Int)) = false := ltF (by omega)
  have hce := cost_eq hs hL
  have HS := Lib.hid hs
  clear hT hL hp
  go_enter Tryd.func9, Tryd.ntmps9
  go_wp2_with fail
  refine (stnew_call (Sep.nil w) 262144 9 9 (by omega) (by omega) (by omega) (by omega) (by omega) (by omega)).mono ?_
  rintro e w1 ⟨b, rfl, h1⟩
  have h1 : Sep No w w1 [stR b 9 9 (Slb.empty 262144) ⟨9, 9, []⟩] := h1
  have c1 := bput_first h1 0 rfl (HT.out.mod h1.mod) hs HL.out (by have := HP.out; omega) (by omega) (by omega) (by omega) (by omega) (by omega)
  clear h1 hs
  go_wp2_with fail
  refine c1.mono ?_
  rintro e w2 ⟨S, T, H, a, rfl, I, hpg, hq, ho, hm, h2⟩
  have h2 : Sep No w w2 [stR b 9 9 S T] := h2
  obtain ⟨hd, er, S', T', H', R', M⟩ := I.made (L : Int)
  have hlv : liveR [(⟨4294967297, (a : Int), Txt.tw s⟩ : Rc)] = [⟨4294967297, (a : Int), Txt.tw s⟩] := liveR_all (by simp)
  obtain rfl := I.made_ok ho.noret (by omega) (by omega) (by rw [hlv, hm]; show ((1 : Nat) : Int) < 9; omega) (by
    rw [hq]
    unfold pgR
    rw [hlv]
    have hw : ((Txt.tw s).length : Int) = (L : Int) := by rw [Txt.tw_len, HL.out]
    simp only [List.map_cons, List.map_nil, List.sum_cons, List.sum_nil]
    rw [hw]
    have := HP.out
    omega) M
  have hne := (M.good rfl).2.2.1 ⟨4294967297, (a : Int), Txt.tw s⟩ (by simp)
  have hne : (4294967297 : Int) ≠ hd := hne
  have hrg := M.range
  have c2 := bput_ok h2 0 rfl I (HT.out.mod h2.mod) HS.out HL.out M
  clear c1 I hpg hq ho hm h2 hlv M
  go_wp2_with fail
  refine c2.mono ?_
  rintro e w3 ⟨⟨S2, a2⟩, ⟨rfl, I, -, -⟩, h3⟩
  have h3 : Sep No w w3 [stR b 9 9 S2 T'] := h3
  have I : StInv S2 T' H' [⟨4294967297, (a : Int), Txt.tw s⟩, ⟨hd, (a2 : Int), Txt.tw s⟩] := I
  have hw : ((Txt.tw s).length : Int) = (L : Int) := by rw [Txt.tw_len, HL.out]
  have c3 := stlen_call h3 0 rfl I (hh := 4294967297) (by omega) (lenOk (j := 0) (r := ⟨4294967297, (a : Int), Txt.tw s⟩) rfl (by simp))
  have c4 := stlen_call h3 0 rfl I (hh := hd) ⟨hrg.1, hrg.2.1⟩ (lenOk (j := 1) (r := ⟨hd, (a2 : Int), Txt.tw s⟩) rfl (by simp))
  dsimp only at c3 c4
  rw [hw] at c3 c4
  have d2 : ((4294967297 : Int) == hd) = false := beqF hne
  have c5 := cost_call (s.size : Int) w3
  rw [hce] at c5
  have HI := Lib.hid (And.intro I (And.intro (show 0 ≤ hd ∧ hd < 18446744073709551616 from ⟨hrg.1, hrg.2.1⟩) hw))
  have HR : Hid (Sep No w w3 [stR b 9 9 S2 T']) := h3
  have d3 : ((L : Int) != (L : Int)) = false := bneF rfl
  have d4 : ((L : Int) + 2 != (L : Int) + 2) = false := bneF rfl
  clear c2 I h3 hw hne hrg hce
  go_wp2_with fail
  refine c3.mono ?_
  rintro e w' ⟨rfl, rfl⟩
  clear c3
  go_wp2_with fail
  refine c4.mono ?_
  rintro e w' ⟨rfl, rfl⟩
  clear c4
  go_wp2_with fail
  refine c5.mono ?_
  rintro e w' ⟨rfl, rfl⟩
  clear c5
  go_wp2_with fail
  go_loopw [13] (fun kv wr => ∃ k : Nat, kv = .int .i64 k ∧ k ≤ L ∧ Sep No w wr [stR b 9 9 S2 T']) (fun kv _ => L - (RowKit.intOf kv).toNat)
  case atStart => exact ⟨0, rfl, Nat.zero_le _, HR.out⟩
  case round =>
    obtain ⟨k, rfl, hk, h⟩ := hrel
    clear HR
    by_cases hlt : k < L
    · obtain ⟨x, hx⟩ : ∃ x, (Txt.tw s)[k]? = some x := ⟨_, List.getElem?_eq_getElem (by have := HI.out.2.2; omega)⟩
      have c1 := stget_call h 0 rfl HI.out.1 (hh := 4294967297) (by omega) (getOk (j := 0) (r := ⟨4294967297, (a : Int), Txt.tw s⟩) rfl (by simp) hx)
      have c2 := stget_call h 0 rfl HI.out.1 (hh := hd) HI.out.2.1 (getOk (j := 1) (r := ⟨hd, (a2 : Int), Txt.tw s⟩) rfl (by simp) hx)
      have d5 : (x != x) = false := bneF rfl
      have HR := Lib.hid h
      clear h hx
      go_wp2_with fail
      refine c1.mono ?_
      rintro e w' ⟨rfl, rfl⟩
      clear c1
      go_wp2_with fail
      refine c2.mono ?_
      rintro e w' ⟨rfl, rfl⟩
      clear c2
      go_wp2
      go_roundw
      case rel => exact ⟨k + 1, by go_num, by omega, HR.out⟩
      case measure => simp [RowKit.intOf]; omega
    · obtain rfl : k = L := by omega
      have HM := Lib.hid h.mod
      clear h hlt
      go_wp2_with fail
      have ha := awake09_call wr (HT.out.mod HM.out)
      go_wp2_with fail
      refine ha.mono ?_
      rintro e w9 ⟨rfl, hm9⟩
      have H9 := Lib.hid (HM.out.trans' hm9)
      clear ha hm9
      go_wp2
      go_ret
      exact ⟨rfl, H9.out.below _ (Nat.le_refl _) (fun _ _ x => x)⟩

theorem blobSame_walk (s : ByteArray) (w : World) (_ : s.size ≤ maxLen) (hT : Tab64 w) :
    Calls Tryd.prog 9 #[.string s] w fun e w' => e = .returned (.bool true) ∧ Below w.heap.size w w' := by
  by_cases h : s.size ≤ 1000
  · exact same_in s h w hT
  · have d : decide ((1000 : Int) < (s.size : Int)) = true := ltT (by omega)
    have HT := Lib.hid hT
    have HS := Lib.hid (show 1000 < s.size by omega)
    clear hT h
    go_enter Tryd.func9, Tryd.ntmps9
    go_wp2_with fail
    refine (stnew_call (Sep.nil w) 262144 9 9 (by omega) (by omega) (by omega) (by omega) (by omega) (by omega)).mono ?_
    rintro e w1 ⟨b, rfl, h1⟩
    have h1 : Sep No w w1 [stR b 9 9 (Slb.empty 262144) ⟨9, 9, []⟩] := h1
    have c1 := bput_long h1 0 rfl (StInv.start (by omega) (by omega) (by omega) (by omega) (by omega) (by omega)) s HS.out
    have HM := Lib.hid h1.mod
    clear h1
    go_wp2_with fail
    refine c1.mono ?_
    rintro e w' ⟨rfl, rfl⟩
    go_wp2_with fail
    refine c1.mono ?_
    rintro e w' ⟨rfl, rfl⟩
    clear c1
    go_wp2_with fail
    have ha := awake09_call w1 (HT.out.mod HM.out)
    go_wp2_with fail
    refine ha.mono ?_
    rintro e w9 ⟨rfl, hm9⟩
    have H9 := Lib.hid (HM.out.trans' hm9)
    clear ha hm9
    go_wp2
    go_ret
    exact ⟨rfl, H9.out.below _ (Nat.le_refl _) (fun _ _ x => x)⟩
end Go.Proofs.YtfmcddomciicdaaDoor
