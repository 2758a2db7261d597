/- The laws' awake of package loftlaw06, walked. Condition: the table of math/bits holds what its initialiser lays. -/
import Derived.Test.YtfmcddomciicdaaDoorStoreFirst
import Derived.Test.YtfmcddomciicdaaDoorStoreWalk2
import Derived.Test.YtfmcddomciicdaaDoorStoreMake
set_option linter.unusedVariables false
set_option linter.unusedSimpArgs false
set_option maxRecDepth 100000
namespace Go.Proofs.YtfmcddomciicdaaDoor
open Go Go.RowKit

variable {F0 : Nat → Prop} {w0 w : World} {Ps : List Res}

set_option maxHeartbeats 1000000 in
theorem awake06_call (w : World) (hT : Tab64 w) : Calls Tryd.prog 12 #[] w fun e w' => e = .returned (.bool true) ∧ Mod No w w' := by
  have HT := Lib.hid hT
  clear hT
  go_enter Tryd.func12, Tryd.ntmps12
  go_wp2_with fail
  refine (stnew_call (Sep.nil w) 640 10 9 (by omega) (by omega) (by omega) (by omega) (by omega) (by omega)).mono ?_
  rintro e w1 ⟨b, rfl, h1⟩
  have h1 : Sep No w w1 [stR b 10 9 (Slb.empty 640) ⟨10, 9, []⟩] := h1
  obtain ⟨S1, T1, H1, a, M, hpg⟩ := StInv.first (q := 640) (m := 10) (la := 9) (n := 2) (by omega) (by omega) (by omega) (by omega) (by omega) (by omega) (by omega) (by omega) (by decide)
  have I1 := M.inv
  have c1 := stmake_call h1 0 rfl (HT.out.mod h1.mod) M
  clear h1 M
  go_wp2_with fail
  refine c1.mono ?_
  rintro e w2 ⟨rfl, h2⟩
  have h2 : Sep No w w2 [stR b 10 9 S1 T1] := h2
  obtain ⟨S2, P⟩ := I1.putOk (j := 0) (r := ⟨4294967297, (a : Int), [0, 0]⟩) rfl (by simp) (i := 1) (by simp) (v := 7) (by omega) (by omega)
  have I2 := P.inv
  have hpg2 := P.quo.2
  have c2 := stput_call h2 0 rfl I1 (hh := 4294967297) (by omega) (by omega) (by omega) P
  clear c1 h2 P I1
  go_wp2_with fail
  refine c2.mono ?_
  rintro e w3 ⟨rfl, h3⟩
  have h3 : Sep No w w3 [stR b 10 9 S2 T1] := h3
  have I2 : StInv S2 T1 H1 [⟨4294967297, (a : Int), [0, 7]⟩] := I2
  have c3 := stget_call h3 0 rfl I2 (hh := 4294967297) (k := 1) (by omega) (getOk (j := 0) (i := 1) (x := 7) (r := ⟨4294967297, (a : Int), [0, 7]⟩) rfl (by simp) rfl)
  have H3 := Lib.hid h3
  clear c2 h3
  go_wp2_with fail
  refine c3.mono ?_
  rintro e w' ⟨rfl, rfl⟩
  have c4 := stwords_call H3.out 0 rfl
  rw [hpg2, hpg] at c4
  have c4 : Calls Tryd.prog 15 #[.pointer (some ⟨b, 0, none⟩)] w3 fun e w' => e = .returned (.int .i64 64) ∧ Sep No w w' [stR b 10 9 S2 T1] := c4
  clear c3 H3
  go_wp2_with fail
  refine c4.mono ?_
  rintro e w4 ⟨rfl, h4⟩
  obtain ⟨S5, T5, H5, D⟩ := I2.dropOk (j := 0) (r := ⟨4294967297, (a : Int), [0, 7]⟩) rfl (by simp)
  have I5 : StInv S5 T5 H5 [⟨4294967297, -1, [0, 7]⟩] := D.inv
  have c5 := stdrop_call h4 0 rfl I2 (hh := 4294967297) (by omega) D
  clear c4 h4 D I2
  go_wp2_with fail
  refine c5.mono ?_
  rintro e w5 ⟨rfl, h5⟩
  have h5 : Sep No w w5 [stR b 10 9 S5 T5] := h5
  have hst := I5.gone (j := 0) (r := ⟨4294967297, -1, [0, 7]⟩) rfl (by decide)
  have c6 := stget_call h5 0 rfl I5 (hh := 4294967297) (k := 1) (by omega) (.stale hst)
  have c7 := stwords_call h5 0 rfl
  rw [(I5.empty_pg rfl).2] at c7
  have c7 : Calls Tryd.prog 15 #[.pointer (some ⟨b, 0, none⟩)] w5 fun e w' => e = .returned (.int .i64 0) ∧ Sep No w w' [stR b 10 9 S5 T5] := c7
  clear c5 h5 hst I5
  go_wp2_with fail
  refine c6.mono ?_
  rintro e w' ⟨rfl, rfl⟩
  clear c6
  go_wp2_with fail
  refine c7.mono ?_
  rintro e w7 ⟨rfl, h7⟩
  have HM := Lib.hid h7.mod
  clear c7 h7
  go_wp2
  go_ret
  exact ⟨rfl, HM.out⟩
end Go.Proofs.YtfmcddomciicdaaDoor
