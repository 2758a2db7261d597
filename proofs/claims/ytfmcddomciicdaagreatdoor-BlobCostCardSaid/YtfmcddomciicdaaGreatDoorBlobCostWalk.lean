/- BlobCost, walked. Condition: the table of math/bits holds what its initialiser lays. -/
import Derived.Test.YtfmcddomciicdaaGreatDoorBlobNil
set_option linter.unusedVariables false
set_option linter.unusedSimpArgs false
set_option maxRecDepth 100000
namespace Go.Proofs.YtfmcddomciicdaaGreatDoor
open Go Go.RowKit

set_option maxHeartbeats 1000000 in
theorem blobCost_walk (n : Int) (s : ByteArray) (h : Int) (w : World) (w0 : (Lit.int .i64 n).wf = true) (_ : s.size ≤ maxLen) (_ : (Lit.int .u64 h).wf = true) (hT : Tab64 w) :
    Calls Tryz.prog 14 #[.int .i64 n, .string s, .int .u64 h] w fun e w' => e = .returned (.bool true) ∧ Below w.heap.size w w' := by
  have hb := bounds_i64 w0
  have HT := Lib.hid hT
  have HM := Lib.hid (Mod.refl No w)
  have hp := zbPut (noStore_nil w) s
  have hg := zbGet (noStore_nil w) h
  have hd := zbDrop (noStore_nil w) h
  have hc := cost_call n w
  clear hT w0
  by_cases hs : 2000 < s.size
  · have d : decide ((2000 : Int) < (s.size : Int)) = true := ltT (by omega)
    clear hs hp hg hd hc
    go_enter Tryz.func14, Tryz.ntmps14
    go_wp2_with fail
    have ha := awake09_call w (HT.out.mod HM.out)
    go_wp2_with fail
    refine ha.mono ?_
    rintro e w9 ⟨rfl, hm9⟩
    have H9 := Lib.hid (HM.out.trans' hm9)
    clear ha hm9
    go_wp2
    go_ret
    exact ⟨rfl, H9.out.below _ (Nat.le_refl _) (fun _ _ x => x)⟩
  · have d : decide ((2000 : Int) < (s.size : Int)) = false := ltF (by omega)
    clear hs
    by_cases hn : 0 ≤ n ∧ n ≤ 1000
    · have hm : many n = 1 + (n + 7) / 8 := by unfold many; rw [if_neg (by omega)]; omega
      obtain ⟨q, hq⟩ : ∃ q, (n + 7) / 8 = q := ⟨_, rfl⟩
      rw [hm, hq, if_pos (by omega), show 1 + q + 2 = 3 + q by omega] at hc
      have d1 : decide (0 ≤ n) = true := leT hn.1
      have d2 : decide (n ≤ 1000) = true := leT hn.2
      have e1 : IntKind.i64.wrap (n + 7) = n + 7 := by rw [IntKind.wrap_i64]; omega
      have e2 : (n + 7).tdiv 8 = q := by rw [Int.tdiv_eq_ediv_of_nonneg (by omega)]; exact hq
      have e4 : IntKind.i64.wrap q = q := by rw [IntKind.wrap_i64]; omega
      have e3 : IntKind.i64.wrap (3 + q) = 3 + q := by rw [IntKind.wrap_i64]; omega
      have d3 : (3 + q == 3 + q) = true := beqT rfl
      clear hm hq hn hb
      go_enter Tryz.func14, Tryz.ntmps14
      go_wp2_with fail
      refine hp.mono ?_
      rintro e w' ⟨rfl, rfl⟩
      clear hp
      go_wp2_with fail
      refine hg.mono ?_
      rintro e w' ⟨rfl, rfl⟩
      clear hg
      go_wp2_with fail
      refine hc.mono ?_
      rintro e w' ⟨rfl, rfl⟩
      clear hc
      go_wp2_with fail
      refine hd.mono ?_
      rintro e w' ⟨rfl, rfl⟩
      clear hd
      go_wp2_with fail
      have ha := awake09_call w (HT.out.mod HM.out)
      go_wp2_with fail
      refine ha.mono ?_
      rintro e w9 ⟨rfl, hm9⟩
      have H9 := Lib.hid (HM.out.trans' hm9)
      clear ha hm9
      go_wp2
      go_ret
      exact ⟨rfl, H9.out.below _ (Nat.le_refl _) (fun _ _ x => x)⟩
    · have hm : many n = 0 := by unfold many; rw [if_pos (by omega)]
      rw [hm, if_neg (by omega)] at hc
      clear hm
      by_cases h0 : 0 ≤ n
      · have d1 : decide (0 ≤ n) = true := leT h0
        have d2 : decide (n ≤ 1000) = false := leF (by omega)
        clear hn h0 hb
        go_enter Tryz.func14, Tryz.ntmps14
        go_wp2_with fail
        refine hp.mono ?_
        rintro e w' ⟨rfl, rfl⟩
        clear hp
        go_wp2_with fail
        refine hg.mono ?_
        rintro e w' ⟨rfl, rfl⟩
        clear hg
        go_wp2_with fail
        refine hc.mono ?_
        rintro e w' ⟨rfl, rfl⟩
        clear hc
        go_wp2_with fail
        refine hd.mono ?_
        rintro e w' ⟨rfl, rfl⟩
        clear hd
        go_wp2_with fail
        have ha := awake09_call w (HT.out.mod HM.out)
        go_wp2_with fail
        refine ha.mono ?_
        rintro e w9 ⟨rfl, hm9⟩
        have H9 := Lib.hid (HM.out.trans' hm9)
        clear ha hm9
        go_wp2
        go_ret
        exact ⟨rfl, H9.out.below _ (Nat.le_refl _) (fun _ _ x => x)⟩
      · have d1 : decide (0 ≤ n) = false := leF (by omega)
        clear hn h0 hb
        go_enter Tryz.func14, Tryz.ntmps14
        go_wp2_with fail
        refine hp.mono ?_
        rintro e w' ⟨rfl, rfl⟩
        clear hp
        go_wp2_with fail
        refine hg.mono ?_
        rintro e w' ⟨rfl, rfl⟩
        clear hg
        go_wp2_with fail
        refine hc.mono ?_
        rintro e w' ⟨rfl, rfl⟩
        clear hc
        go_wp2_with fail
        refine hd.mono ?_
        rintro e w' ⟨rfl, rfl⟩
        clear hd
        go_wp2_with fail
        have ha := awake09_call w (HT.out.mod HM.out)
        go_wp2_with fail
        refine ha.mono ?_
        rintro e w9 ⟨rfl, hm9⟩
        have H9 := Lib.hid (HM.out.trans' hm9)
        clear ha hm9
        go_wp2
        go_ret
        exact ⟨rfl, H9.out.below _ (Nat.le_refl _) (fun _ _ x => x)⟩
end Go.Proofs.YtfmcddomciicdaaGreatDoor
