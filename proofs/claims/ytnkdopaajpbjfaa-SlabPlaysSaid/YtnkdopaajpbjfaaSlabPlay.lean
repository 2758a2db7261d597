/- loftlaw01.play, walked: a call on an arena and on the reference's arena answers the same. Conditions: both are one plain arena. -/
import Derived.Test.YtnkdopaajpbjfaaSlabRef7
import Derived.Test.YtnkdopaajpbjfaaSlabTwoWalk
namespace Go.Proofs.Ytnkdopaajpbjfaa
open Go Go.RowKit

variable {F : Nat → Prop} {w0 w : World} {Ps : List Res} {F0 : Nat → Prop}

theorem rgrant_call {b : Nat} {S : Slb} (h : Sep F w w [rslabR b S]) (hS : S.Ok) (n : Int) {x er : Int} {S' : Slb} (r : S.grant n = (x, er, S')) :
    Calls Try.prog 30 #[.pointer (some ⟨b, 0, none⟩), .int .i64 n] w fun e w' => e = .returned (.tuple #[.int .i64 x, .int .i64 er]) ∧ Sep F w w' [rslabR b S'] := by
  by_cases hbad : n < 1 ∨ 4096 < n
  · rw [Slb.grant_bad hbad] at r
    cases r
    exact rgrant_bad h n hbad
  · by_cases hq : S.quota < (S.pg.length + n) * 64
    · rw [Slb.grant_quo (by omega) (by omega) hq] at r
      cases r
      exact rgrant_quo h hS n (by omega) (by omega) hq
    · unfold Slb.grant at r
      rw [if_neg hbad, if_neg hq] at r
      cases r
      obtain ⟨n, rfl⟩ := Int.eq_ofNat_of_zero_le (show 0 ≤ n by omega)
      rw [Int.toNat_natCast]
      exact rgrant_ok h hS n (by omega) (by omega) hq

theorem Sep.rGrant (h : Sep F0 w0 w Ps) (i : Nat) {b : Nat} {S : Slb} (hi : Ps[i]? = some (rslabR b S)) (hS : S.Ok) (n : Int) {x er : Int} {S' : Slb} (r : S.grant n = (x, er, S')) :
    Calls Try.prog 30 #[.pointer (some ⟨b, 0, none⟩), .int .i64 n] w fun e w' => e = .returned (.tuple #[.int .i64 x, .int .i64 er]) ∧ Sep F0 w0 w' (Ps.set i (rslabR b S')) :=
  h.lift i hi fun _ hF => rgrant_call hF hS n r
theorem Sep.rClaim (h : Sep F0 w0 w Ps) (i : Nat) {b : Nat} {S : Slb} (hi : Ps[i]? = some (rslabR b S)) (hS : S.Ok) (n : Int) {er : Int} {S' : Slb} (r : S.claim n = (er, S')) :
    Calls Try.prog 35 #[.pointer (some ⟨b, 0, none⟩), .int .i64 n] w fun e w' => e = .returned (.int .i64 er) ∧ Sep F0 w0 w' (Ps.set i (rslabR b S')) :=
  h.lift i hi fun _ hF => rclaim_call hF hS n r
theorem Sep.rRelease (h : Sep F0 w0 w Ps) (i : Nat) {b : Nat} {S : Slb} (hi : Ps[i]? = some (rslabR b S)) (hS : S.Ok) (f n : Int) {er : Int} {S' : Slb} (r : S.release f n = (er, S')) :
    Calls Try.prog 31 #[.pointer (some ⟨b, 0, none⟩), .int .i64 f, .int .i64 n] w fun e w' => e = .returned (.int .i64 er) ∧ Sep F0 w0 w' (Ps.set i (rslabR b S')) :=
  h.lift i hi fun _ hF => rrelease_call hF hS f n r
theorem Sep.rWrite (h : Sep F0 w0 w Ps) (i : Nat) {b : Nat} {S : Slb} (hi : Ps[i]? = some (rslabR b S)) (hS : S.Ok) (a v : Int) (v0 : 0 ≤ v) (v1 : v < 18446744073709551616) {er : Int} {S' : Slb} (r : S.write a v = (er, S')) :
    Calls Try.prog 33 #[.pointer (some ⟨b, 0, none⟩), .int .i64 a, .int .u64 v] w fun e w' => e = .returned (.int .i64 er) ∧ Sep F0 w0 w' (Ps.set i (rslabR b S')) :=
  h.lift i hi fun _ hF => rwrite_call hF hS a v v0 v1 r
theorem Sep.rMove (h : Sep F0 w0 w Ps) (i : Nat) {b : Nat} {S : Slb} (hi : Ps[i]? = some (rslabR b S)) (hS : S.Ok) (to f n : Int) {er : Int} {S' : Slb} (r : S.move to f n = (er, S')) :
    Calls Try.prog 34 #[.pointer (some ⟨b, 0, none⟩), .int .i64 to, .int .i64 f, .int .i64 n] w fun e w' => e = .returned (.int .i64 er) ∧ Sep F0 w0 w' (Ps.set i (rslabR b S')) :=
  h.lift i hi fun _ hF => rmove_call hF hS to f n r
/-- The reference's arena, laid open among others. -/
theorem Sep.rOpen (h : Sep F0 w0 w Ps) (i : Nat) {b : Nat} {S : Slb} (hi : Ps[i]? = some (rslabR b S)) :
    ∃ sa cap, Sep F0 w0 w (Ps.set i (cellsAt b #[.int .i64 S.quota, .slice sa S.pg.length cap] 48) ++ [rowAt 59 65 (.slice sa S.pg.length cap) S.pg.length (prow S.wd S.pg)]) := by
  have hl := (List.getElem?_eq_some_iff.1 hi).1
  obtain ⟨v, h⟩ := h.openEx i hi
  have h := h.openStar i (List.getElem?_set_self hl)
  rw [List.set_set] at h
  obtain ⟨sa, cap, rfl⟩ := h.form Ps.length (by rw [List.getElem?_append_right (by simp), List.length_set, Nat.sub_self]; rfl)
  exact ⟨sa, cap, h⟩

namespace Slb
/-- How many words a play moves. -/
def cutN (n : Int) : Int := if 300 < n ∧ n ≤ 262144 then 300 else n
/-- The arena behind a play. -/
def ply (S : Slb) (d a bx n wv : Int) : Slb :=
  if d = 1 then (S.grant a).2.2 else if d = 2 then (S.release bx a).2 else if d = 3 then S else if d = 4 then (S.write a wv).2 else if d = 5 then (S.move a bx (cutN n)).2 else if d = 6 then (S.claim a).2 else S
theorem ply_quota (S : Slb) (d a bx n wv : Int) : (S.ply d a bx n wv).quota = S.quota := by
  unfold ply
  split
  · exact grant_quota S a
  split
  · exact release_quota S bx a
  split
  · rfl
  split
  · exact write_quota S a wv
  split
  · exact move_quota S a bx _
  split
  · exact claim_quota S a
  · rfl
end Slb

section
variable {s b : Nat} {S : Slb}


set_option maxRecDepth 100000 in
theorem play_one (h : Sep F0 w0 w [slabR s S, rslabR b S]) (a bx n wv : Int) :
    Calls Try.prog 20 #[.pointer (some ⟨s, 0, none⟩), .pointer (some ⟨b, 0, none⟩), .agg #[.int .i64 1, .int .i64 a, .int .i64 bx, .int .i64 n, .int .u64 wv]] w fun e w' =>
      e = .returned (.bool true) ∧ Sep F0 w0 w' [slabR s (S.grant a).2.2, rslabR b (S.grant a).2.2] := by
  obtain ⟨d, hd1⟩ : ∃ d : Int, d = 1 := ⟨_, rfl⟩
  rw [← hd1]
  have hdb : (d == 1) = true := beqT hd1
  clear hd1
  rcases r : S.grant a with ⟨x, er, S'⟩
  have hB : Sep F0 w0 (w.alloc (.cells #[.int .i64 d, .int .i64 a, .int .i64 bx, .int .i64 n, .int .u64 wv] 40)) [slabR s S, rslabR b S, cellsAt w.heap.size #[.int .i64 d, .int .i64 a, .int .i64 bx, .int .i64 n, .int .u64 wv] 40] := h.pushCells _ _
  have hS := h.sOk 0 rfl
  obtain ⟨o, ho⟩ : ∃ o, w.heap.size = o := ⟨_, rfl⟩
  rw [ho] at hB
  have HS := Lib.hid hS
  have HO := Lib.hid ho
  clear h hS
  have hc := hB.sGrant 0 rfl a r
  have HR := Lib.hid r
  clear hB r ho
  go_enter Try.func20, Try.ntmps20
  go_wp2_with fail
  refine hc.mono ?_
  rintro e w1 ⟨rfl, h1⟩
  have h1 : Sep F0 w0 w1 [slabR s S', rslabR b S, cellsAt o #[.int .i64 d, .int .i64 a, .int .i64 bx, .int .i64 n, .int .u64 wv] 40] := h1
  have k1 := (h1.cell 2 rfl 1 (v := .int .i64 a) rfl).1
  have hc2 := h1.rGrant 1 rfl HS.out a HR.out
  have hoo := HO.out
  clear hc h1
  go_wp2_with fail
  refine hc2.mono ?_
  rintro e w2 ⟨rfl, h2⟩
  have H2 := Lib.hid (show Sep F0 w0 w2 [slabR s S', rslabR b S'] from Sep.left (Ps := [_, _]) h2)
  have q1 : (x == x) = true := beqT rfl
  have q2 : (er == er) = true := beqT rfl
  clear hc2 h2 k1
  go_wp2
  go_ret
  exact ⟨rfl, H2.out⟩


set_option maxRecDepth 100000 in
theorem play_two (h : Sep F0 w0 w [slabR s S, rslabR b S]) (a bx n wv : Int) (a0 : -9223372036854775808 ≤ a) :
    Calls Try.prog 20 #[.pointer (some ⟨s, 0, none⟩), .pointer (some ⟨b, 0, none⟩), .agg #[.int .i64 2, .int .i64 a, .int .i64 bx, .int .i64 n, .int .u64 wv]] w fun e w' =>
      e = .returned (.bool true) ∧ Sep F0 w0 w' [slabR s (S.release bx a).2, rslabR b (S.release bx a).2] := by
  obtain ⟨d, hd1⟩ : ∃ d : Int, d = 2 := ⟨_, rfl⟩
  rw [← hd1]
  have hdb1 : (d == 1) = false := beqF (by omega)
  have hdb : (d == 2) = true := beqT hd1
  clear hd1
  rcases r : S.release bx a with ⟨er, S'⟩
  have hB : Sep F0 w0 (w.alloc (.cells #[.int .i64 d, .int .i64 a, .int .i64 bx, .int .i64 n, .int .u64 wv] 40)) [slabR s S, rslabR b S, cellsAt w.heap.size #[.int .i64 d, .int .i64 a, .int .i64 bx, .int .i64 n, .int .u64 wv] 40] := h.pushCells _ _
  have hS := h.sOk 0 rfl
  obtain ⟨o, ho⟩ : ∃ o, w.heap.size = o := ⟨_, rfl⟩
  rw [ho] at hB
  have HS := Lib.hid hS
  have HO := Lib.hid ho
  clear h hS
  have HR := Lib.hid r
  go_enter Try.func20, Try.ntmps20
  go_wp2_with fail
  obtain ⟨W, hW⟩ : ∃ x, w.alloc (.cells #[.int .i64 d, .int .i64 a, .int .i64 bx, .int .i64 n, .int .u64 wv] 40) = x := ⟨_, rfl⟩
  rw [hW] at hB ⊢
  have k1 := (hB.cell 2 rfl 1 (v := .int .i64 a) rfl).1
  have k2 := (hB.cell 2 rfl 2 (v := .int .i64 bx) rfl).1
  have k4 := (hB.cell 2 rfl 4 (v := .int .u64 wv) rfl).1
  have hc := hB.drew.sRelease 0 rfl bx a a0 HR.out
  have q2 : (er == er) = true := beqT rfl
  clear hB hW r ho
  go_region_held3 (fun w' => w'.cell? ⟨o, 1, none⟩ = some (.int .i64 a) ∧ w'.cell? ⟨o, 2, none⟩ = some (.int .i64 bx) ∧ w'.cell? ⟨o, 4, none⟩ = some (.int .u64 wv))
    (first | exact ⟨k1, k2, k4⟩ | exact hold2 | exact hold3)
    (first
      | (go_at_call 16; refine hc.mono ?_; rintro e w1 ⟨rfl, h1⟩; have h1' : Sep F0 w0 w1 [slabR s S', rslabR b S, cellsAt o #[.int .i64 d, .int .i64 a, .int .i64 bx, .int .i64 n, .int .u64 wv] 40] := h1; have hold2 := And.intro (h1'.cell 2 rfl 1 (v := .int .i64 a) rfl).1 (And.intro (h1'.cell 2 rfl 2 (v := .int .i64 bx) rfl).1 (h1'.cell 2 rfl 4 (v := .int .u64 wv) rfl).1); clear hc h1)
      | (go_at_call 31; refine (h1'.rRelease 1 rfl HS.out bx a HR.out).mono ?_; rintro e w2 ⟨rfl, h2⟩; have h2' : Sep F0 w0 w2 [slabR s S', rslabR b S', cellsAt o #[.int .i64 d, .int .i64 a, .int .i64 bx, .int .i64 n, .int .u64 wv] 40] := h2; have hold3 := And.intro (h2'.cell 2 rfl 1 (v := .int .i64 a) rfl).1 (And.intro (h2'.cell 2 rfl 2 (v := .int .i64 bx) rfl).1 (h2'.cell 2 rfl 4 (v := .int .u64 wv) rfl).1); clear h2))
  have H2 := Lib.hid (show Sep F0 w0 w2 [slabR s S', rslabR b S'] from Sep.left (Ps := [_, _]) h2')
  clear h1' h2' hold2 hold3 k1 k2 k4
  go_wp2
  go_ret
  exact ⟨rfl, H2.out⟩
set_option maxRecDepth 100000 in
theorem play_three (h : Sep F0 w0 w [slabR s S, rslabR b S]) (a bx n wv : Int) :
    Calls Try.prog 20 #[.pointer (some ⟨s, 0, none⟩), .pointer (some ⟨b, 0, none⟩), .agg #[.int .i64 3, .int .i64 a, .int .i64 bx, .int .i64 n, .int .u64 wv]] w fun e w' =>
      e = .returned (.bool true) ∧ Sep F0 w0 w' [slabR s S, rslabR b S] := by
  obtain ⟨d, hd1⟩ : ∃ d : Int, d = 3 := ⟨_, rfl⟩
  rw [← hd1]
  have hdb1 : (d == 1) = false := beqF (by omega)
  have hdb2 : (d == 2) = false := beqF (by omega)
  have hdb : (d == 3) = true := beqT hd1
  clear hd1
  rcases r : S.read a with ⟨x, er⟩
  have hB : Sep F0 w0 (w.alloc (.cells #[.int .i64 d, .int .i64 a, .int .i64 bx, .int .i64 n, .int .u64 wv] 40)) [slabR s S, rslabR b S, cellsAt w.heap.size #[.int .i64 d, .int .i64 a, .int .i64 bx, .int .i64 n, .int .u64 wv] 40] := h.pushCells _ _
  have hS := h.sOk 0 rfl
  obtain ⟨o, ho⟩ : ∃ o, w.heap.size = o := ⟨_, rfl⟩
  rw [ho] at hB
  have HS := Lib.hid hS
  have HO := Lib.hid ho
  clear h hS
  have hc := hB.sRead 0 rfl a r
  obtain ⟨sa, cap, hE⟩ := hB.rOpen 1 rfl
  have hE : Sep F0 w0 (w.alloc (.cells #[.int .i64 d, .int .i64 a, .int .i64 bx, .int .i64 n, .int .u64 wv] 40)) [slabR s S, cellsAt b #[.int .i64 S.quota, .slice sa S.pg.length cap] 48, cellsAt o #[.int .i64 d, .int .i64 a, .int .i64 bx, .int .i64 n, .int .u64 wv] 40, rowAt 59 65 (.slice sa S.pg.length cap) S.pg.length (prow S.wd S.pg)] := hE
  have HB := Lib.hid (And.intro hB hE)
  have HR := Lib.hid r
  clear hB hE r
  go_enter Try.func20, Try.ntmps20
  go_wp2_with fail
  refine hc.mono ?_
  rintro e w1 ⟨rfl, rfl⟩
  clear hc
  go_wp2_with fail
  obtain ⟨W, hW⟩ : ∃ x, w.alloc (.cells #[.int .i64 d, .int .i64 a, .int .i64 bx, .int .i64 n, .int .u64 wv] 40) = x := ⟨_, rfl⟩
  rw [hW] at HB ⊢
  have k1 := (HB.out.1.cell 2 rfl 1 (v := .int .i64 a) rfl).1
  have b0 := (HB.out.2.cell 1 rfl 0 (v := .int .i64 S.quota) rfl).1
  have b1 := (HB.out.2.cell 1 rfl 1 (v := .slice sa S.pg.length cap) rfl).1
  have hd := rread_call (HB.out.2.drew.row 3 rfl) HS.out a
  rw [HR.out] at hd
  have q1 : (x == x) = true := beqT rfl
  have q2 : (er == er) = true := beqT rfl
  clear hW ho
  go_region_held3 (fun w' => w'.cell? ⟨o, 1, none⟩ = some (.int .i64 a) ∧ w'.cell? ⟨b, 0, none⟩ = some (.int .i64 S.quota) ∧ w'.cell? ⟨b, 1, none⟩ = some (.slice sa S.pg.length cap))
    (first | exact ⟨k1, b0, b1⟩ | exact hold2)
    (first
      | (go_at_call 32; refine hd.mono ?_; rintro e w2 ⟨rfl, hm⟩; have h2' := HB.out.1.drew.more hm; have g2' := HB.out.2.drew.more hm; have hold2 := And.intro (h2'.cell 2 rfl 1 (v := .int .i64 a) rfl).1 (And.intro (g2'.cell 1 rfl 0 (v := .int .i64 S.quota) rfl).1 (g2'.cell 1 rfl 1 (v := .slice sa S.pg.length cap) rfl).1); clear hd g2'))
  have H2 := Lib.hid (show Sep F0 w0 w2 [slabR s S, rslabR b S] from Sep.left (Ps := [_, _]) h2')
  clear h2' hm hold2 k1 b0 b1
  go_wp2
  go_ret
  exact ⟨rfl, H2.out⟩

set_option maxRecDepth 100000 in
theorem play_four (h : Sep F0 w0 w [slabR s S, rslabR b S]) (a bx n wv : Int) (v0 : 0 ≤ wv) (v1 : wv < 18446744073709551616) :
    Calls Try.prog 20 #[.pointer (some ⟨s, 0, none⟩), .pointer (some ⟨b, 0, none⟩), .agg #[.int .i64 4, .int .i64 a, .int .i64 bx, .int .i64 n, .int .u64 wv]] w fun e w' =>
      e = .returned (.bool true) ∧ Sep F0 w0 w' [slabR s (S.write a wv).2, rslabR b (S.write a wv).2] := by
  obtain ⟨d, hd1⟩ : ∃ d : Int, d = 4 := ⟨_, rfl⟩
  rw [← hd1]
  have hdb1 : (d == 1) = false := beqF (by omega)
  have hdb2 : (d == 2) = false := beqF (by omega)
  have hdb3 : (d == 3) = false := beqF (by omega)
  have hdb : (d == 4) = true := beqT hd1
  clear hd1
  rcases r : S.write a wv with ⟨er, S'⟩
  have hB : Sep F0 w0 (w.alloc (.cells #[.int .i64 d, .int .i64 a, .int .i64 bx, .int .i64 n, .int .u64 wv] 40)) [slabR s S, rslabR b S, cellsAt w.heap.size #[.int .i64 d, .int .i64 a, .int .i64 bx, .int .i64 n, .int .u64 wv] 40] := h.pushCells _ _
  have hS := h.sOk 0 rfl
  obtain ⟨o, ho⟩ : ∃ o, w.heap.size = o := ⟨_, rfl⟩
  rw [ho] at hB
  have HS := Lib.hid hS
  have HO := Lib.hid ho
  clear h hS
  have HR := Lib.hid r
  go_enter Try.func20, Try.ntmps20
  go_wp2_with fail
  obtain ⟨W, hW⟩ : ∃ x, w.alloc (.cells #[.int .i64 d, .int .i64 a, .int .i64 bx, .int .i64 n, .int .u64 wv] 40) = x := ⟨_, rfl⟩
  rw [hW] at hB ⊢
  have k1 := (hB.cell 2 rfl 1 (v := .int .i64 a) rfl).1
  have k2 := (hB.cell 2 rfl 2 (v := .int .i64 bx) rfl).1
  have k4 := (hB.cell 2 rfl 4 (v := .int .u64 wv) rfl).1
  have hc := hB.drew.sWrite 0 rfl a wv v0 v1 HR.out
  have q2 : (er == er) = true := beqT rfl
  clear hB hW r ho
  go_region_held3 (fun w' => w'.cell? ⟨o, 1, none⟩ = some (.int .i64 a) ∧ w'.cell? ⟨o, 2, none⟩ = some (.int .i64 bx) ∧ w'.cell? ⟨o, 4, none⟩ = some (.int .u64 wv))
    (first | exact ⟨k1, k2, k4⟩ | exact hold2 | exact hold3)
    (first
      | (go_at_call 13; refine hc.mono ?_; rintro e w1 ⟨rfl, h1⟩; have h1' : Sep F0 w0 w1 [slabR s S', rslabR b S, cellsAt o #[.int .i64 d, .int .i64 a, .int .i64 bx, .int .i64 n, .int .u64 wv] 40] := h1; have hold2 := And.intro (h1'.cell 2 rfl 1 (v := .int .i64 a) rfl).1 (And.intro (h1'.cell 2 rfl 2 (v := .int .i64 bx) rfl).1 (h1'.cell 2 rfl 4 (v := .int .u64 wv) rfl).1); clear hc h1)
      | (go_at_call 33; refine (h1'.rWrite 1 rfl HS.out a wv v0 v1 HR.out).mono ?_; rintro e w2 ⟨rfl, h2⟩; have h2' : Sep F0 w0 w2 [slabR s S', rslabR b S', cellsAt o #[.int .i64 d, .int .i64 a, .int .i64 bx, .int .i64 n, .int .u64 wv] 40] := h2; have hold3 := And.intro (h2'.cell 2 rfl 1 (v := .int .i64 a) rfl).1 (And.intro (h2'.cell 2 rfl 2 (v := .int .i64 bx) rfl).1 (h2'.cell 2 rfl 4 (v := .int .u64 wv) rfl).1); clear h2))
  have H2 := Lib.hid (show Sep F0 w0 w2 [slabR s S', rslabR b S'] from Sep.left (Ps := [_, _]) h2')
  clear h1' h2' hold2 hold3 k1 k2 k4
  go_wp2
  go_ret
  exact ⟨rfl, H2.out⟩

set_option maxRecDepth 100000 in
theorem play_five (h : Sep F0 w0 w [slabR s S, rslabR b S]) (a bx n wv : Int) (a1 : a ≤ 9223372036854775807) (b1 : bx ≤ 9223372036854775807) :
    Calls Try.prog 20 #[.pointer (some ⟨s, 0, none⟩), .pointer (some ⟨b, 0, none⟩), .agg #[.int .i64 5, .int .i64 a, .int .i64 bx, .int .i64 n, .int .u64 wv]] w fun e w' =>
      e = .returned (.bool true) ∧ Sep F0 w0 w' [slabR s (S.move a bx (Slb.cutN n)).2, rslabR b (S.move a bx (Slb.cutN n)).2] := by
  obtain ⟨d, hd1⟩ : ∃ d : Int, d = 5 := ⟨_, rfl⟩
  rw [← hd1]
  have hdb1 : (d == 1) = false := beqF (by omega)
  have hdb2 : (d == 2) = false := beqF (by omega)
  have hdb3 : (d == 3) = false := beqF (by omega)
  have hdb4 : (d == 4) = false := beqF (by omega)
  have hdb : (d == 5) = true := beqT hd1
  clear hd1
  by_cases h1 : 300 < n
  · have d6 : decide (300 < n) = true := ltT h1
    by_cases h2 : n ≤ 262144
    · have d7 : decide (n ≤ 262144) = true := leT h2
      have e : Slb.cutN n = 300 := if_pos ⟨h1, h2⟩
      rw [e]
      clear e h1 h2
      rcases r : S.move a bx 300 with ⟨er, S'⟩
      have hB : Sep F0 w0 (w.alloc (.cells #[.int .i64 d, .int .i64 a, .int .i64 bx, .int .i64 n, .int .u64 wv] 40)) [slabR s S, rslabR b S, cellsAt w.heap.size #[.int .i64 d, .int .i64 a, .int .i64 bx, .int .i64 n, .int .u64 wv] 40] := h.pushCells _ _
      have hS := h.sOk 0 rfl
      obtain ⟨o, ho⟩ : ∃ o, w.heap.size = o := ⟨_, rfl⟩
      rw [ho] at hB
      have HS := Lib.hid hS
      have HO := Lib.hid ho
      clear h hS
      have HR := Lib.hid r
      go_enter Try.func20, Try.ntmps20
      go_wp2_with fail
      obtain ⟨W, hW⟩ : ∃ x, w.alloc (.cells #[.int .i64 d, .int .i64 a, .int .i64 bx, .int .i64 n, .int .u64 wv] 40) = x := ⟨_, rfl⟩
      rw [hW] at hB ⊢
      have k1 := (hB.cell 2 rfl 1 (v := .int .i64 a) rfl).1
      have k2 := (hB.cell 2 rfl 2 (v := .int .i64 bx) rfl).1
      have k4 := (hB.cell 2 rfl 4 (v := .int .u64 wv) rfl).1
      have hc := hB.drew.sMove 0 rfl a bx 300 a1 b1 HR.out
      have q2 : (er == er) = true := beqT rfl
      clear hB hW r ho
      go_region_held3 (fun w' => w'.cell? ⟨o, 1, none⟩ = some (.int .i64 a) ∧ w'.cell? ⟨o, 2, none⟩ = some (.int .i64 bx) ∧ w'.cell? ⟨o, 4, none⟩ = some (.int .u64 wv))
        (first | exact ⟨k1, k2, k4⟩ | exact hold2 | exact hold3)
        (first
          | (go_at_call 25; refine hc.mono ?_; rintro e w1 ⟨rfl, h1⟩; have h1' : Sep F0 w0 w1 [slabR s S', rslabR b S, cellsAt o #[.int .i64 d, .int .i64 a, .int .i64 bx, .int .i64 n, .int .u64 wv] 40] := h1; have hold2 := And.intro (h1'.cell 2 rfl 1 (v := .int .i64 a) rfl).1 (And.intro (h1'.cell 2 rfl 2 (v := .int .i64 bx) rfl).1 (h1'.cell 2 rfl 4 (v := .int .u64 wv) rfl).1); clear hc h1)
          | (go_at_call 34; refine (h1'.rMove 1 rfl HS.out a bx 300 HR.out).mono ?_; rintro e w2 ⟨rfl, h2⟩; have h2' : Sep F0 w0 w2 [slabR s S', rslabR b S', cellsAt o #[.int .i64 d, .int .i64 a, .int .i64 bx, .int .i64 n, .int .u64 wv] 40] := h2; have hold3 := And.intro (h2'.cell 2 rfl 1 (v := .int .i64 a) rfl).1 (And.intro (h2'.cell 2 rfl 2 (v := .int .i64 bx) rfl).1 (h2'.cell 2 rfl 4 (v := .int .u64 wv) rfl).1); clear h2))
      have H2 := Lib.hid (show Sep F0 w0 w2 [slabR s S', rslabR b S'] from Sep.left (Ps := [_, _]) h2')
      clear h1' h2' hold2 hold3 k1 k2 k4
      go_wp2
      go_ret
      exact ⟨rfl, H2.out⟩
    · have d7 : decide (n ≤ 262144) = false := leF (by omega)
      have e : Slb.cutN n = n := if_neg (fun h => h2 h.2)
      rw [e]
      clear e h1 h2
      rcases r : S.move a bx n with ⟨er, S'⟩
      have hB : Sep F0 w0 (w.alloc (.cells #[.int .i64 d, .int .i64 a, .int .i64 bx, .int .i64 n, .int .u64 wv] 40)) [slabR s S, rslabR b S, cellsAt w.heap.size #[.int .i64 d, .int .i64 a, .int .i64 bx, .int .i64 n, .int .u64 wv] 40] := h.pushCells _ _
      have hS := h.sOk 0 rfl
      obtain ⟨o, ho⟩ : ∃ o, w.heap.size = o := ⟨_, rfl⟩
      rw [ho] at hB
      have HS := Lib.hid hS
      have HO := Lib.hid ho
      clear h hS
      have HR := Lib.hid r
      go_enter Try.func20, Try.ntmps20
      go_wp2_with fail
      obtain ⟨W, hW⟩ : ∃ x, w.alloc (.cells #[.int .i64 d, .int .i64 a, .int .i64 bx, .int .i64 n, .int .u64 wv] 40) = x := ⟨_, rfl⟩
      rw [hW] at hB ⊢
      have k1 := (hB.cell 2 rfl 1 (v := .int .i64 a) rfl).1
      have k2 := (hB.cell 2 rfl 2 (v := .int .i64 bx) rfl).1
      have k4 := (hB.cell 2 rfl 4 (v := .int .u64 wv) rfl).1
      have hc := hB.drew.sMove 0 rfl a bx n a1 b1 HR.out
      have q2 : (er == er) = true := beqT rfl
      clear hB hW r ho
      go_region_held3 (fun w' => w'.cell? ⟨o, 1, none⟩ = some (.int .i64 a) ∧ w'.cell? ⟨o, 2, none⟩ = some (.int .i64 bx) ∧ w'.cell? ⟨o, 4, none⟩ = some (.int .u64 wv))
        (first | exact ⟨k1, k2, k4⟩ | exact hold2 | exact hold3)
        (first
          | (go_at_call 25; refine hc.mono ?_; rintro e w1 ⟨rfl, h1⟩; have h1' : Sep F0 w0 w1 [slabR s S', rslabR b S, cellsAt o #[.int .i64 d, .int .i64 a, .int .i64 bx, .int .i64 n, .int .u64 wv] 40] := h1; have hold2 := And.intro (h1'.cell 2 rfl 1 (v := .int .i64 a) rfl).1 (And.intro (h1'.cell 2 rfl 2 (v := .int .i64 bx) rfl).1 (h1'.cell 2 rfl 4 (v := .int .u64 wv) rfl).1); clear hc h1)
          | (go_at_call 34; refine (h1'.rMove 1 rfl HS.out a bx n HR.out).mono ?_; rintro e w2 ⟨rfl, h2⟩; have h2' : Sep F0 w0 w2 [slabR s S', rslabR b S', cellsAt o #[.int .i64 d, .int .i64 a, .int .i64 bx, .int .i64 n, .int .u64 wv] 40] := h2; have hold3 := And.intro (h2'.cell 2 rfl 1 (v := .int .i64 a) rfl).1 (And.intro (h2'.cell 2 rfl 2 (v := .int .i64 bx) rfl).1 (h2'.cell 2 rfl 4 (v := .int .u64 wv) rfl).1); clear h2))
      have H2 := Lib.hid (show Sep F0 w0 w2 [slabR s S', rslabR b S'] from Sep.left (Ps := [_, _]) h2')
      clear h1' h2' hold2 hold3 k1 k2 k4
      go_wp2
      go_ret
      exact ⟨rfl, H2.out⟩
  · have d6 : decide (300 < n) = false := ltF (by omega)
    have e : Slb.cutN n = n := if_neg (fun h => h1 h.1)
    rw [e]
    clear e h1
    rcases r : S.move a bx n with ⟨er, S'⟩
    have hB : Sep F0 w0 (w.alloc (.cells #[.int .i64 d, .int .i64 a, .int .i64 bx, .int .i64 n, .int .u64 wv] 40)) [slabR s S, rslabR b S, cellsAt w.heap.size #[.int .i64 d, .int .i64 a, .int .i64 bx, .int .i64 n, .int .u64 wv] 40] := h.pushCells _ _
    have hS := h.sOk 0 rfl
    obtain ⟨o, ho⟩ : ∃ o, w.heap.size = o := ⟨_, rfl⟩
    rw [ho] at hB
    have HS := Lib.hid hS
    have HO := Lib.hid ho
    clear h hS
    have HR := Lib.hid r
    go_enter Try.func20, Try.ntmps20
    go_wp2_with fail
    obtain ⟨W, hW⟩ : ∃ x, w.alloc (.cells #[.int .i64 d, .int .i64 a, .int .i64 bx, .int .i64 n, .int .u64 wv] 40) = x := ⟨_, rfl⟩
    rw [hW] at hB ⊢
    have k1 := (hB.cell 2 rfl 1 (v := .int .i64 a) rfl).1
    have k2 := (hB.cell 2 rfl 2 (v := .int .i64 bx) rfl).1
    have k4 := (hB.cell 2 rfl 4 (v := .int .u64 wv) rfl).1
    have hc := hB.drew.sMove 0 rfl a bx n a1 b1 HR.out
    have q2 : (er == er) = true := beqT rfl
    clear hB hW r ho
    go_region_held3 (fun w' => w'.cell? ⟨o, 1, none⟩ = some (.int .i64 a) ∧ w'.cell? ⟨o, 2, none⟩ = some (.int .i64 bx) ∧ w'.cell? ⟨o, 4, none⟩ = some (.int .u64 wv))
      (first | exact ⟨k1, k2, k4⟩ | exact hold2 | exact hold3)
      (first
        | (go_at_call 25; refine hc.mono ?_; rintro e w1 ⟨rfl, h1⟩; have h1' : Sep F0 w0 w1 [slabR s S', rslabR b S, cellsAt o #[.int .i64 d, .int .i64 a, .int .i64 bx, .int .i64 n, .int .u64 wv] 40] := h1; have hold2 := And.intro (h1'.cell 2 rfl 1 (v := .int .i64 a) rfl).1 (And.intro (h1'.cell 2 rfl 2 (v := .int .i64 bx) rfl).1 (h1'.cell 2 rfl 4 (v := .int .u64 wv) rfl).1); clear hc h1)
        | (go_at_call 34; refine (h1'.rMove 1 rfl HS.out a bx n HR.out).mono ?_; rintro e w2 ⟨rfl, h2⟩; have h2' : Sep F0 w0 w2 [slabR s S', rslabR b S', cellsAt o #[.int .i64 d, .int .i64 a, .int .i64 bx, .int .i64 n, .int .u64 wv] 40] := h2; have hold3 := And.intro (h2'.cell 2 rfl 1 (v := .int .i64 a) rfl).1 (And.intro (h2'.cell 2 rfl 2 (v := .int .i64 bx) rfl).1 (h2'.cell 2 rfl 4 (v := .int .u64 wv) rfl).1); clear h2))
    have H2 := Lib.hid (show Sep F0 w0 w2 [slabR s S', rslabR b S'] from Sep.left (Ps := [_, _]) h2')
    clear h1' h2' hold2 hold3 k1 k2 k4
    go_wp2
    go_ret
    exact ⟨rfl, H2.out⟩

set_option maxRecDepth 100000 in
theorem play_six (h : Sep F0 w0 w [slabR s S, rslabR b S]) (a bx n wv : Int) (a0 : -9223372036854775808 ≤ a) (a1 : a ≤ 9223372036854775807) :
    Calls Try.prog 20 #[.pointer (some ⟨s, 0, none⟩), .pointer (some ⟨b, 0, none⟩), .agg #[.int .i64 6, .int .i64 a, .int .i64 bx, .int .i64 n, .int .u64 wv]] w fun e w' =>
      e = .returned (.bool true) ∧ Sep F0 w0 w' [slabR s (S.claim a).2, rslabR b (S.claim a).2] := by
  obtain ⟨d, hd1⟩ : ∃ d : Int, d = 6 := ⟨_, rfl⟩
  rw [← hd1]
  have hdb1 : (d == 1) = false := beqF (by omega)
  have hdb2 : (d == 2) = false := beqF (by omega)
  have hdb3 : (d == 3) = false := beqF (by omega)
  have hdb4 : (d == 4) = false := beqF (by omega)
  have hdb5 : (d == 5) = false := beqF (by omega)
  have hdb : (d == 6) = true := beqT hd1
  clear hd1
  rcases r : S.claim a with ⟨er, S'⟩
  have hB : Sep F0 w0 (w.alloc (.cells #[.int .i64 d, .int .i64 a, .int .i64 bx, .int .i64 n, .int .u64 wv] 40)) [slabR s S, rslabR b S, cellsAt w.heap.size #[.int .i64 d, .int .i64 a, .int .i64 bx, .int .i64 n, .int .u64 wv] 40] := h.pushCells _ _
  have hS := h.sOk 0 rfl
  obtain ⟨o, ho⟩ : ∃ o, w.heap.size = o := ⟨_, rfl⟩
  rw [ho] at hB
  have HS := Lib.hid hS
  have HO := Lib.hid ho
  clear h hS
  have HR := Lib.hid r
  go_enter Try.func20, Try.ntmps20
  go_wp2_with fail
  obtain ⟨W, hW⟩ : ∃ x, w.alloc (.cells #[.int .i64 d, .int .i64 a, .int .i64 bx, .int .i64 n, .int .u64 wv] 40) = x := ⟨_, rfl⟩
  rw [hW] at hB ⊢
  have k1 := (hB.cell 2 rfl 1 (v := .int .i64 a) rfl).1
  have k2 := (hB.cell 2 rfl 2 (v := .int .i64 bx) rfl).1
  have k4 := (hB.cell 2 rfl 4 (v := .int .u64 wv) rfl).1
  have hc := hB.drew.sClaim 0 rfl a a0 a1 HR.out
  have q2 : (er == er) = true := beqT rfl
  clear hB hW r ho
  go_region_held3 (fun w' => w'.cell? ⟨o, 1, none⟩ = some (.int .i64 a) ∧ w'.cell? ⟨o, 2, none⟩ = some (.int .i64 bx) ∧ w'.cell? ⟨o, 4, none⟩ = some (.int .u64 wv))
    (first | exact ⟨k1, k2, k4⟩ | exact hold2 | exact hold3)
    (first
      | (go_at_call 11; refine hc.mono ?_; rintro e w1 ⟨rfl, h1⟩; have h1' : Sep F0 w0 w1 [slabR s S', rslabR b S, cellsAt o #[.int .i64 d, .int .i64 a, .int .i64 bx, .int .i64 n, .int .u64 wv] 40] := h1; have hold2 := And.intro (h1'.cell 2 rfl 1 (v := .int .i64 a) rfl).1 (And.intro (h1'.cell 2 rfl 2 (v := .int .i64 bx) rfl).1 (h1'.cell 2 rfl 4 (v := .int .u64 wv) rfl).1); clear hc h1)
      | (go_at_call 35; refine (h1'.rClaim 1 rfl HS.out a HR.out).mono ?_; rintro e w2 ⟨rfl, h2⟩; have h2' : Sep F0 w0 w2 [slabR s S', rslabR b S', cellsAt o #[.int .i64 d, .int .i64 a, .int .i64 bx, .int .i64 n, .int .u64 wv] 40] := h2; have hold3 := And.intro (h2'.cell 2 rfl 1 (v := .int .i64 a) rfl).1 (And.intro (h2'.cell 2 rfl 2 (v := .int .i64 bx) rfl).1 (h2'.cell 2 rfl 4 (v := .int .u64 wv) rfl).1); clear h2))
  have H2 := Lib.hid (show Sep F0 w0 w2 [slabR s S', rslabR b S'] from Sep.left (Ps := [_, _]) h2')
  clear h1' h2' hold2 hold3 k1 k2 k4
  go_wp2
  go_ret
  exact ⟨rfl, H2.out⟩

set_option maxRecDepth 100000 in
theorem play_else (h : Sep F0 w0 w [slabR s S, rslabR b S]) (d a bx n wv : Int) (h1 : d ≠ 1) (h2 : d ≠ 2) (h3 : d ≠ 3) (h4 : d ≠ 4) (h5 : d ≠ 5) (h6 : d ≠ 6) :
    Calls Try.prog 20 #[.pointer (some ⟨s, 0, none⟩), .pointer (some ⟨b, 0, none⟩), .agg #[.int .i64 d, .int .i64 a, .int .i64 bx, .int .i64 n, .int .u64 wv]] w fun e w' =>
      e = .returned (.bool true) ∧ Sep F0 w0 w' [slabR s S, rslabR b S] := by
  have hdb1 : (d == 1) = false := beqF h1
  have hdb2 : (d == 2) = false := beqF h2
  have hdb3 : (d == 3) = false := beqF h3
  have hdb4 : (d == 4) = false := beqF h4
  have hdb5 : (d == 5) = false := beqF h5
  have hdb6 : (d == 6) = false := beqF h6
  have H := Lib.hid (h.alloc (.cells #[.int .i64 d, .int .i64 a, .int .i64 bx, .int .i64 n, .int .u64 wv] 40))
  clear h h1 h2 h3 h4 h5 h6
  go_enter Try.func20, Try.ntmps20
  go_wp2
  go_ret
  exact ⟨rfl, H.out⟩

theorem play_call (h : Sep F0 w0 w [slabR s S, rslabR b S]) (d a bx n wv : Int) (a0 : -9223372036854775808 ≤ a) (a1 : a ≤ 9223372036854775807) (b1 : bx ≤ 9223372036854775807) (v0 : 0 ≤ wv) (v1 : wv < 18446744073709551616) :
    Calls Try.prog 20 #[.pointer (some ⟨s, 0, none⟩), .pointer (some ⟨b, 0, none⟩), .agg #[.int .i64 d, .int .i64 a, .int .i64 bx, .int .i64 n, .int .u64 wv]] w fun e w' =>
      e = .returned (.bool true) ∧ Sep F0 w0 w' [slabR s (S.ply d a bx n wv), rslabR b (S.ply d a bx n wv)] := by
  by_cases h1 : d = 1
  · subst h1; exact play_one h a bx n wv
  by_cases h2 : d = 2
  · subst h2; exact play_two h a bx n wv a0
  by_cases h3 : d = 3
  · subst h3; exact play_three h a bx n wv
  by_cases h4 : d = 4
  · subst h4; exact play_four h a bx n wv v0 v1
  by_cases h5 : d = 5
  · subst h5; exact play_five h a bx n wv a1 b1
  by_cases h6 : d = 6
  · subst h6; exact play_six h a bx n wv a0 a1
  have e : S.ply d a bx n wv = S := by unfold Slb.ply; rw [if_neg h1, if_neg h2, if_neg h3, if_neg h4, if_neg h5, if_neg h6]
  rw [e]
  exact play_else h d a bx n wv h1 h2 h3 h4 h5 h6
end
end Go.Proofs.Ytnkdopaajpbjfaa
