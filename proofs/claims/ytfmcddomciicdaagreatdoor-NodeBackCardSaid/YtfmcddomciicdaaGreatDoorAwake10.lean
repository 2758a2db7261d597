/- The laws' awake of package loftlaw10, walked. Condition: the table of math/bits holds what its initialiser lays. -/
import Derived.Test.YtfmcddomciicdaaGreatDoorNodeNil
set_option linter.unusedVariables false
set_option linter.unusedSimpArgs false
set_option maxRecDepth 100000
namespace Go.Proofs.YtfmcddomciicdaaGreatDoor
open Go Go.RowKit

/-- The first node of all. -/
theorem nmake_first {F0 : Nat → Prop} {w0 w : World} {Ps : List Res} {b : Nat} {q m la : Int} (h : Sep F0 w0 w Ps) (i : Nat) (hi : Ps[i]? = some (stR b m la (Slb.empty q) ⟨m, la, []⟩)) (hT : Tab64 w)
    (q0 : 64 ≤ q) (q1 : q ≤ 262144) (m1 : 1 ≤ m) (m2 : m ≤ 65536) (l1 : 1 ≤ la) (l2 : la ≤ 4294967295) {x0 x1 x2 x3 x4 x5 : Int} (hx : ∀ x ∈ [x0, x1, x2, x3, x4, x5], 0 ≤ x ∧ x < 18446744073709551616) :
    Calls Tryz.prog 46 #[.pointer (some ⟨b, 0, none⟩), nodeV x0 x1 x2 x3 x4 x5] w fun e w' => ∃ (S : Slb) (T : HTbl) (H : List Ent) (a : Nat), e = .returned (.tuple #[.int .u64 4294967297, .int .i64 0]) ∧ StInv S T H [⟨4294967297, (a : Int), [x0, x1, x2, x3, x4, x5]⟩] ∧ S.pg.length = 1 ∧ S.quota = q ∧ Sep F0 w0 w' (Ps.set i (stR b m la S T)) := by
  obtain ⟨S1, T1, H1, a, M, hpg⟩ := StInv.first (q := q) (m := m) (la := la) (n := 6) (by omega) (by omega) (by omega) (by omega) (by omega) (by omega) (by omega) (by omega) (by rw [show Slb.pagesOf (6 + 2) = 1 from rfl]; omega)
  refine (nmake_ok h i hi hT M hx).mono ?_
  rintro e w' ⟨⟨S2, a2⟩, ⟨rfl, I, hp, hq⟩, h2⟩
  exact ⟨S2, T1, H1, a2, rfl, I, by rw [hp, hpg]; rfl, hq.trans M.quo, h2⟩

set_option maxHeartbeats 1000000 in
theorem awake10_call (w : World) (hT : Tab64 w) : Calls Tryz.prog 45 #[] w fun e w' => e = .returned (.bool true) ∧ Mod No w w' := by
  have HT := Lib.hid hT
  clear hT
  go_enter Tryz.func45, Tryz.ntmps45
  go_wp2_with fail
  refine (stnew_call (Sep.nil w) 640 9 9 (by omega) (by omega) (by omega) (by omega) (by omega) (by omega)).mono ?_
  rintro e w1 ⟨b, rfl, h1⟩
  have h1 : Sep No w w1 [stR b 9 9 (Slb.empty 640) ⟨9, 9, []⟩] := h1
  have c1 := nmake_first h1 0 rfl (HT.out.mod h1.mod) (x0 := 7) (x1 := 0) (x2 := 0) (x3 := 0) (x4 := 0) (x5 := 1) (by omega) (by omega) (by omega) (by omega) (by omega) (by omega) (by intro x hx; simp at hx; omega)
  clear h1
  go_wp2_with fail
  refine c1.mono ?_
  rintro e w2 ⟨S, T, H, a, rfl, I, hpg, hq, h2⟩
  have h2 : Sep No w w2 [stR b 9 9 S T] := h2
  have c2 := stlen_call h2 0 rfl I (hh := 4294967297) (by omega) (lenOk (j := 0) (r := ⟨4294967297, (a : Int), [7, 0, 0, 0, 0, 1]⟩) rfl (by simp))
  have c3 := stget_call h2 0 rfl I (hh := 4294967297) (k := 5) (by omega) (getOk (j := 0) (i := 5) (x := 1) (r := ⟨4294967297, (a : Int), [7, 0, 0, 0, 0, 1]⟩) rfl (by simp) rfl)
  have c4 := nget_ok h2 0 rfl I (hh := 4294967297) (by omega) (j := 0) (r := ⟨4294967297, (a : Int), [7, 0, 0, 0, 0, 1]⟩) ⟨rfl, Int.natCast_nonneg a, rfl⟩ rfl
  have HM := Lib.hid h2.mod
  clear c1 I hpg hq h2
  go_wp2_with fail
  refine c2.mono ?_
  rintro e w' ⟨rfl, rfl⟩
  clear c2
  go_wp2_with fail
  refine c3.mono ?_
  rintro e w' ⟨rfl, rfl⟩
  clear c3
  go_wp2_with fail
  refine c4.mono ?_
  rintro e w3 ⟨rfl, hm⟩
  have HM2 := Lib.hid ((HM.out.trans' hm).alloc (.cells #[.int .u64 7, .int .u64 0, .int .u64 0, .int .u64 0, .int .u64 0, .int .u64 1] 109))
  clear c4 hm
  go_wp2_with fail
  go_ret
  exact ⟨rfl, HM2.out⟩
end Go.Proofs.YtfmcddomciicdaaGreatDoor
