/- The laws' awake of package loftlaw09, walked. Condition: the table of math/bits holds what its initialiser lays. -/
import Derived.Test.YtfmcddomciicdaaGreatDoorBlobWalk
set_option linter.unusedVariables false
set_option linter.unusedSimpArgs false
set_option maxRecDepth 100000
namespace Go.Proofs.YtfmcddomciicdaaGreatDoor
open Go Go.RowKit

theorem Made.allOpen {S S' : Slb} {T T' : HTbl} {H H' : List Ent} {R R' : List Rc} {n hd er : Int} (M : Made S T H R n hd er S' T' H' R') (A : T.AllOpen) : T'.AllOpen := by
  cases M <;> first | exact A | exact A.openK _
theorem Made.most {S S' : Slb} {T T' : HTbl} {H H' : List Ent} {R R' : List Rc} {n hd er : Int} (M : Made S T H R n hd er S' T' H' R') : T'.most = T.most := by
  cases M <;> rfl

/-- The first blob of all. -/
theorem bput_first {F0 : Nat → Prop} {w0 w : World} {Ps : List Res} {b : Nat} {q m la : Int} (h : Sep F0 w0 w Ps) (i : Nat) (hi : Ps[i]? = some (stR b m la (Slb.empty q) ⟨m, la, []⟩)) (hT : Tab64 w) {s : ByteArray} (hs : s.size ≤ 1000) {L : Nat} (hL : L = 1 + (s.size + 7) / 8)
    (q0 : (Slb.pagesOf ((L : Int) + 2) : Int) * 64 ≤ q) (q1 : q ≤ 262144) (m1 : 1 ≤ m) (m2 : m ≤ 65536) (l1 : 1 ≤ la) (l2 : la ≤ 4294967295) :
    Calls Tryz.prog 58 #[.pointer (some ⟨b, 0, none⟩), .string s] w fun e w' => ∃ (S : Slb) (T : HTbl) (H : List Ent) (a : Nat), e = .returned (.tuple #[.int .u64 4294967297, .int .i64 0]) ∧ StInv S T H [⟨4294967297, (a : Int), Txt.tw s⟩] ∧ S.pg.length = Slb.pagesOf ((L : Int) + 2) ∧ S.quota = q ∧ T.AllOpen ∧ T.most = m ∧ Sep F0 w0 w' (Ps.set i (stR b m la S T)) := by
  obtain ⟨S1, T1, H1, a, M, hpg⟩ := StInv.first (q := q) (m := m) (la := la) (n := (L : Int)) (by omega) q1 m1 m2 l1 l2 (by omega) (by omega) q0
  have ha := M.allOpen HTbl.AllOpen.new
  have hm := M.most
  refine (bput_ok h i hi (StInv.start (q := q) (m := m) (l := la) (by omega) q1 m1 m2 l1 l2) hT hs hL M).mono ?_
  rintro e w' ⟨⟨S2, a2⟩, ⟨rfl, I, hp, hq⟩, h2⟩
  exact ⟨S2, T1, H1, a2, rfl, I, by rw [hp, hpg], hq.trans M.quo, ha, hm, h2⟩

set_option maxHeartbeats 1000000 in
theorem awake09_call (w : World) (hT : Tab64 w) : Calls Tryz.prog 57 #[] w fun e w' => e = .returned (.bool true) ∧ Mod No w w' := by
  have HT := Lib.hid hT
  clear hT
  go_enter Tryz.func57, Tryz.ntmps57
  go_wp2_with fail
  refine (stnew_call (Sep.nil w) 640 9 9 (by omega) (by omega) (by omega) (by omega) (by omega) (by omega)).mono ?_
  rintro e w1 ⟨b, rfl, h1⟩
  have h1 : Sep No w w1 [stR b 9 9 (Slb.empty 640) ⟨9, 9, []⟩] := h1
  have c1 := bput_first h1 0 rfl (HT.out.mod h1.mod) (s := ⟨#[97, 98, 99]⟩) (by decide) (L := 2) rfl (by decide) (by omega) (by omega) (by omega) (by omega) (by omega)
  clear h1
  go_wp2_with fail
  refine c1.mono ?_
  rintro e w2 ⟨S, T, H, a, rfl, I, -, -, -, -, h2⟩
  have h2 : Sep No w w2 [stR b 9 9 S T] := h2
  have c2 := stlen_call h2 0 rfl I (hh := 4294967297) (by omega) (lenOk (j := 0) (r := ⟨4294967297, (a : Int), Txt.tw ⟨#[97, 98, 99]⟩⟩) rfl (by simp))
  have c2 : Calls Tryz.prog 28 #[.pointer (some ⟨b, 0, none⟩), .int .u64 4294967297] w2 fun e w' => e = .returned (.tuple #[.int .i64 2, .int .i64 0]) ∧ w2 = w' := c2
  have c4 := bget_ok h2 0 rfl I (hh := 4294967297) (by omega) (j := 0) (r := ⟨4294967297, (a : Int), Txt.tw ⟨#[97, 98, 99]⟩⟩) ⟨rfl, Int.natCast_nonneg a, rfl⟩ (s := ⟨#[97, 98, 99]⟩) (by decide) rfl
  have HM := Lib.hid h2.mod
  clear c1 I h2
  go_wp2_with fail
  refine c2.mono ?_
  rintro e w' ⟨rfl, rfl⟩
  clear c2
  go_wp2_with fail
  refine c4.mono ?_
  rintro e w3 ⟨rfl, hm⟩
  have HM2 := Lib.hid (HM.out.trans' hm)
  have c5 := cost_call 0 w3
  have c6 := cost_call 8 w3
  rw [show (if 0 < many 0 then many 0 + 2 else 0) = 3 from rfl] at c5
  rw [show (if 0 < many 8 then many 8 + 2 else 0) = 4 from rfl] at c6
  clear c4 hm
  go_wp2_with fail
  refine c5.mono ?_
  rintro e w' ⟨rfl, rfl⟩
  clear c5
  go_wp2_with fail
  refine c6.mono ?_
  rintro e w' ⟨rfl, rfl⟩
  clear c6
  go_wp2_with fail
  go_ret
  exact ⟨rfl, HM2.out⟩
end Go.Proofs.YtfmcddomciicdaaGreatDoor
