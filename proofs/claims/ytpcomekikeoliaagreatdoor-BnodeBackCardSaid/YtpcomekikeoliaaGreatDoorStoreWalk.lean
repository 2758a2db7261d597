/- Package store, walked: Len, Get, Put, Drop, Slide, Words, Spare. Conditions: the store's records are as said; handles and words are 64-bit words. -/
import Derived.Test.YtpcomekikeoliaaGreatDoorStoreSpec3
import Derived.Test.YtpcomekikeoliaaGreatDoorStoreBase
set_option linter.unusedVariables false
set_option linter.unusedSimpArgs false
set_option maxRecDepth 100000
namespace Go.Proofs.YtpcomekikeoliaaGreatDoor
open Go Go.RowKit

variable {F F0 : Nat → Prop} {w0 w : World} {Ps : List Res}

section
variable {b s hp t : Nat} {m la : Int} {S S' : Slb} {T T' : HTbl} {H H' : List Ent} {R R' : List Rc}

/-- at, as Len's outcome has it. -/
theorem stat_len (h : Sep F w0 w [stAt b m la s hp t, slabR s S, hpAt hp s, tabR t T]) (I : StInv S T H R) {hh : Int} (h0 : 0 ≤ hh ∧ hh < 18446744073709551616) {x er : Int} (L : Lens T R hh x er) :
    ∃ a : Int, (Calls Tryz.prog 56 #[.pointer (some ⟨b, 0, none⟩), .int .u64 hh] w fun e w' => e = .returned (.tuple #[.int .i64 a, .int .i64 x, .int .i64 er]) ∧ w = w') ∧
      ((er = 7 ∧ T.at' hh = (0, 7)) ∨ (er = 0 ∧ ∃ j r, Rec R hh j r ∧ a = r.a ∧ x = (r.w.length : Nat) ∧ 2 ≤ a ∧ a + x + 2 ≤ 67108864 ∧ x ≤ 3998)) := by
  cases L with
  | stale e => exact ⟨0, stat_no h h0 e, .inl ⟨rfl, e⟩⟩
  | ok j r L =>
    have hr := List.mem_of_getElem? L.hj
    have had := I.adr hr L.h0
    have hw := (I.words r hr L.h0).1
    have := stat_ok h I L.hj L.h0
    rw [L.he] at this
    exact ⟨r.a, this, .inr ⟨rfl, j, r, L, rfl, rfl, by omega, by omega, by omega⟩⟩

theorem stlen_call (h : Sep F0 w0 w Ps) (i : Nat) (hi : Ps[i]? = some (stR b m la S T)) (I : StInv S T H R) {hh : Int} (h0 : 0 ≤ hh ∧ hh < 18446744073709551616) {x er : Int} (L : Lens T R hh x er) :
    Calls Tryz.prog 48 #[.pointer (some ⟨b, 0, none⟩), .int .u64 hh] w fun e w' => e = .returned (.tuple #[.int .i64 x, .int .i64 er]) ∧ w = w' := by
  obtain ⟨F, h1⟩ := h.one i hi
  obtain ⟨s, hp, t, h2⟩ := st_open h1
  obtain ⟨a, hat, -⟩ := stat_len h2 I h0 L
  clear h h1 h2 I L hi
  go_enter Tryz.func48, Tryz.ntmps48
  go_wp2_with fail
  refine hat.mono ?_
  rintro e w' ⟨rfl, rfl⟩
  clear hat
  go_wp2
  go_ret2
  exact ⟨rfl, rfl⟩

/-- place: as Get's outcome has it. -/
theorem stplace_err (h : Sep F w0 w [stAt b m la s hp t, slabR s S, hpAt hp s, tabR t T]) (I : StInv S T H R) {hh k : Int} (h0 : 0 ≤ hh ∧ hh < 18446744073709551616) {x er : Int} (G : Gets T R hh k x er) (he : er ≠ 0) :
    Calls Tryz.prog 94 #[.pointer (some ⟨b, 0, none⟩), .int .u64 hh, .int .i64 k] w fun e w' => e = .returned (.tuple #[.int .i64 0, .int .i64 er]) ∧ w = w' := by
  cases G with
  | stale e =>
    have hat := stat_no h h0 e
    clear h I e he
    go_enter Tryz.func94, Tryz.ntmps94
    go_wp2_with fail
    refine hat.mono ?_
    rintro e w' ⟨rfl, rfl⟩
    clear hat
    go_wp2
    go_ret2
    exact ⟨rfl, rfl⟩
  | arg j r L hk =>
    obtain ⟨a, hat, hc⟩ := stat_len h I h0 (.ok j r L)
    obtain ⟨n, hn⟩ : ∃ n, r.w.length = n := ⟨_, rfl⟩
    rw [hn] at hat hk
    clear h I he hc L hn
    rcases hk with hk | hk
    · have d1 : decide (k < 0) = true := ltT hk
      clear hk
      go_enter Tryz.func94, Tryz.ntmps94
      go_wp2_with fail
      refine hat.mono ?_
      rintro e w' ⟨rfl, rfl⟩
      clear hat
      go_wp2
      go_ret2
      exact ⟨rfl, rfl⟩
    · have d1 : decide (k < 0) = false := ltF (by omega)
      have d2 : decide ((n : Int) ≤ k) = true := leT hk
      clear hk
      go_enter Tryz.func94, Tryz.ntmps94
      go_wp2_with fail
      refine hat.mono ?_
      rintro e w' ⟨rfl, rfl⟩
      clear hat
      go_wp2
      go_ret2
      exact ⟨rfl, rfl⟩
  | ok j r L i hk x hx => exact absurd rfl he

theorem stplace_ok (h : Sep F w0 w [stAt b m la s hp t, slabR s S, hpAt hp s, tabR t T]) (I : StInv S T H R) {hh : Int} {j : Nat} {r : Rc} (L : Rec R hh j r) {k : Nat} (hk : k < r.w.length) :
    Calls Tryz.prog 94 #[.pointer (some ⟨b, 0, none⟩), .int .u64 hh, .int .i64 (k : Nat)] w fun e w' => e = .returned (.tuple #[.int .i64 (r.a + 2 + (k : Int)), .int .i64 0]) ∧ w = w' := by
  have hat := stat_ok h I L.hj L.h0
  rw [L.he] at hat
  have had := I.adr (List.mem_of_getElem? L.hj) L.h0
  obtain ⟨n, hn⟩ : ∃ n, r.w.length = n := ⟨_, rfl⟩
  rw [hn] at hat hk had
  have d1 : decide ((k : Int) < 0) = false := ltF (by omega)
  have d2 : decide ((n : Int) ≤ (k : Int)) = false := leF (by omega)
  obtain ⟨a, ha⟩ : ∃ a, r.a = a := ⟨_, rfl⟩
  rw [ha] at hat had ⊢
  have e1 : IntKind.i64.wrap (a + 2) = a + 2 := by rw [IntKind.wrap_i64]; omega
  have e2 : IntKind.i64.wrap (a + 2 + (k : Int)) = a + 2 + (k : Int) := by rw [IntKind.wrap_i64]; omega
  clear h I L hn ha
  go_enter Tryz.func94, Tryz.ntmps94
  go_wp2_with fail
  refine hat.mono ?_
  rintro e w' ⟨rfl, rfl⟩
  clear hat
  go_wp2
  go_ret2
  exact ⟨rfl, rfl⟩

theorem stget_call (h : Sep F0 w0 w Ps) (i : Nat) (hi : Ps[i]? = some (stR b m la S T)) (I : StInv S T H R) {hh k : Int} (h0 : 0 ≤ hh ∧ hh < 18446744073709551616) {x er : Int} (G : Gets T R hh k x er) :
    Calls Tryz.prog 49 #[.pointer (some ⟨b, 0, none⟩), .int .u64 hh, .int .i64 k] w fun e w' => e = .returned (.tuple #[.int .u64 x, .int .i64 er]) ∧ w = w' := by
  obtain ⟨F, h1⟩ := h.one i hi
  obtain ⟨s, hp, t, h2⟩ := st_open h1
  by_cases he : er = 0
  · cases G with
    | stale e => cases he
    | arg j r L hk => cases he
    | ok j r L i hk x hx =>
      subst hk
      have hpl := stplace_ok h2 I L (List.getElem?_eq_some_iff.1 hx).1
      have hrd := h2.sRead 1 rfl _ (I.get_eq (List.mem_of_getElem? L.hj) L.h0 hx)
      have c2 := (h2.cell 0 rfl 2 (v := .pointer (some ⟨s, 0, none⟩)) rfl).1
      obtain ⟨p, hp'⟩ : ∃ p, r.a + 2 + (i : Int) = p := ⟨_, rfl⟩
      rw [hp'] at hpl hrd
      clear h h1 h2 I L hx hp' hi
      go_enter Tryz.func49, Tryz.ntmps49
      go_wp2_with fail
      refine hpl.mono ?_
      rintro e w' ⟨rfl, rfl⟩
      clear hpl
      go_wp2_with fail
      refine hrd.mono ?_
      rintro e w' ⟨rfl, rfl⟩
      clear hrd
      go_wp2
      go_ret2
      exact ⟨rfl, rfl⟩
  · have hx : x = 0 := by
      cases G with
      | stale e => rfl
      | arg j r L hk => rfl
      | ok j r L i hk x hx => exact absurd rfl he
    subst hx
    have hpl := stplace_err h2 I h0 G he
    have d : (er != 0) = true := bneT he
    clear h h1 h2 I G hi he
    go_enter Tryz.func49, Tryz.ntmps49
    go_wp2_with fail
    refine hpl.mono ?_
    rintro e w' ⟨rfl, rfl⟩
    clear hpl
    go_wp2
    go_ret2
    exact ⟨rfl, rfl⟩

theorem stput_call (h : Sep F0 w0 w Ps) (i : Nat) (hi : Ps[i]? = some (stR b m la S T)) (I : StInv S T H R) {hh k v : Int} (h0 : 0 ≤ hh ∧ hh < 18446744073709551616) (v0 : 0 ≤ v) (v1 : v < 18446744073709551616) {er : Int} (P : Puts S T H R hh k v er S' R') :
    Calls Tryz.prog 55 #[.pointer (some ⟨b, 0, none⟩), .int .u64 hh, .int .i64 k, .int .u64 v] w fun e w' => e = .returned (.int .i64 er) ∧ Sep F0 w0 w' (Ps.set i (stR b m la S' T)) := by
  refine h.lift i hi fun F h1 => ?_
  obtain ⟨s, hp, t, h2⟩ := st_open h1
  by_cases he : er = 0
  · cases P with
    | stale e => cases he
    | arg j r L hk => cases he
    | ok j r L i hk hi2 S' e hpg hq I' =>
      subst hk
      have hpl := stplace_ok h2 I L hi2
      have hwr := h2.sWrite 1 rfl _ v v0 v1 e
      have c2 := (h2.cell 0 rfl 2 (v := .pointer (some ⟨s, 0, none⟩)) rfl).1
      obtain ⟨p, hp'⟩ : ∃ p, r.a + 2 + (i : Int) = p := ⟨_, rfl⟩
      rw [hp'] at hpl hwr
      clear h h1 h2 I I' L hp' hi hi2 e hpg hq
      go_enter Tryz.func55, Tryz.ntmps55
      go_wp2_with fail
      refine hpl.mono ?_
      rintro e w' ⟨rfl, rfl⟩
      clear hpl
      go_wp2_with fail
      refine hwr.mono ?_
      rintro e w' ⟨rfl, h3⟩
      have H3 := Lib.hid (st_shut h3)
      clear hwr h3
      go_wp2
      go_ret
      exact ⟨rfl, H3.out⟩
  · have G : Gets T R hh k 0 er ∧ S' = S := by
      cases P with
      | stale e => exact ⟨.stale e, rfl⟩
      | arg j r L hk => exact ⟨.arg j r L hk, rfl⟩
      | ok j r L i hk hi2 S' e hpg hq I' => exact absurd rfl he
    obtain ⟨G, rfl⟩ := G
    have hpl := stplace_err h2 I h0 G he
    have d : (er != 0) = true := bneT he
    have H3 := Lib.hid h1
    clear h h1 h2 I G hi he P
    go_enter Tryz.func55, Tryz.ntmps55
    go_wp2_with fail
    refine hpl.mono ?_
    rintro e w' ⟨rfl, rfl⟩
    clear hpl
    go_wp2
    go_ret
    exact ⟨rfl, H3.out⟩

theorem stslide_call (h : Sep F0 w0 w Ps) (i : Nat) (hi : Ps[i]? = some (stR b m la S T)) (hT : Tab64 w) (I : StInv S T H R) {hh : Int} (h0 : 0 ≤ hh ∧ hh < 18446744073709551616) {is : Bool} {er : Int} (D : Slides S T H R hh is er S' T' H' R') :
    Calls Tryz.prog 21 #[.pointer (some ⟨b, 0, none⟩), .int .u64 hh] w fun e w' => e = .returned (.tuple #[.bool is, .int .i64 er]) ∧ Sep F0 w0 w' (Ps.set i (stR b m la S' T')) := by
  refine h.lift i hi fun F h1 => ?_
  obtain ⟨s, hp, t, h2⟩ := st_open h1
  cases D with
  | stale e =>
    have hat := stat_no h2 h0 e
    have H3 := Lib.hid h1
    clear h h1 h2 I e hi hT
    go_enter Tryz.func21, Tryz.ntmps21
    go_wp2_with fail
    refine hat.mono ?_
    rintro e w' ⟨rfl, rfl⟩
    clear hat
    go_wp2
    go_ret2
    exact ⟨rfl, H3.out⟩
  | ok j r L tq S2 T2 H2 e le em D W I' =>
    have hat := stat_ok h2 I L.hj L.h0
    rw [L.he] at hat em
    have had := I.adr (List.mem_of_getElem? L.hj) L.h0
    have hsl := h2.hSlideR 2 1 (by omega) rfl rfl hT I.rep r.a (by omega) (by omega) e
    have c3 := (h2.cell 0 rfl 3 (v := .pointer (some ⟨hp, 0, none⟩)) rfl).1
    have HEM := Lib.hid em
    obtain ⟨n, hn⟩ : ∃ n, r.w.length = n := ⟨_, rfl⟩
    obtain ⟨a, ha⟩ : ∃ a, r.a = a := ⟨_, rfl⟩
    rw [hn, ha] at hat
    rw [ha] at hsl le ⊢
    have ht1 : (tq : Int) ≤ 67108864 := by omega
    clear h h1 h2 I I' L hi e em D W had hn ha hT
    go_enter Tryz.func21, Tryz.ntmps21
    go_wp2_with fail
    refine hat.mono ?_
    rintro e w' ⟨rfl, rfl⟩
    clear hat
    go_wp2_with fail
    refine hsl.mono ?_
    rintro e w1 ⟨rfl, h3⟩
    have hmv := h3.tMove 3 rfl hh (tq : Int) h0.1 h0.2 (by omega) HEM.out
    have c4 := (h3.cell 0 rfl 4 (v := .pointer (some ⟨t, 0, none⟩)) rfl).1
    clear hsl h3 c3
    go_wp2_with fail
    refine hmv.mono ?_
    rintro e w2 ⟨rfl, h4⟩
    have H4 := Lib.hid (st_shut h4)
    clear hmv h4 c4
    go_wp2
    go_ret2
    exact ⟨rfl, H4.out⟩

end
end Go.Proofs.YtpcomekikeoliaaGreatDoor
