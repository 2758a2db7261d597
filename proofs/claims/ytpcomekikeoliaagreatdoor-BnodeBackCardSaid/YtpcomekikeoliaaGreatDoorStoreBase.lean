/- A store as an object apart from others; its methods that change nothing, walked. Conditions: its records are as said. -/
import Derived.Test.YtpcomekikeoliaaGreatDoorStoreSpec2
import Derived.Test.YtpcomekikeoliaaGreatDoorTabSep
import Derived.Test.YtpcomekikeoliaaGreatDoorHeapLawSpec
set_option linter.unusedVariables false
set_option linter.unusedSimpArgs false
set_option maxRecDepth 100000
namespace Go.Proofs.YtpcomekikeoliaaGreatDoor
open Go Go.RowKit

theorem StInv.start {q m l : Int} (h0 : 0 ≤ q) (h1 : q ≤ 262144) (m1 : 1 ≤ m) (m2 : m ≤ 65536) (l1 : 1 ≤ l) (l2 : l ≤ 4294967295) : StInv (Slb.empty q) ⟨m, l, []⟩ [] [] :=
  ⟨Slb.Rep.empty h0 h1, ⟨m1, m2, l1, l2, by simp; omega, by simp⟩, HTbl.OnceInv.start _, List.Perm.refl _, by simp, rfl⟩

variable {F F0 : Nat → Prop} {w0 w : World} {Ps : List Res}

/-- One object by itself. -/
theorem Sep.one (h : Sep F0 w0 w Ps) (i : Nat) {R : Res} (hi : Ps[i]? = some R) : ∃ F, Sep F w w [R] := by
  obtain ⟨F, h1, _⟩ := h.frame [i] [R] (by simp) (by simp [hi])
  exact ⟨F, h1⟩

/-- A store's own cells. -/
abbrev stAt (b : Nat) (m la : Int) (s hp t : Nat) : Res := cellsAt b #[.int .i64 m, .int .u32 la, .pointer (some ⟨s, 0, none⟩), .pointer (some ⟨hp, 0, none⟩), .pointer (some ⟨t, 0, none⟩)] 110
/-- A store. -/
def stR (b : Nat) (m la : Int) (S : Slb) (T : HTbl) : Res := exR fun (p : Nat × Nat × Nat) => starR (starR (starR (stAt b m la p.1 p.2.1 p.2.2) (tabR p.2.2 T)) (hpAt p.2.1 p.1)) (slabR p.1 S)

theorem st_open {b : Nat} {m la : Int} {S : Slb} {T : HTbl} (h : Sep F w0 w [stR b m la S T]) : ∃ s hp t, Sep F w0 w [stAt b m la s hp t, slabR s S, hpAt hp s, tabR t T] := by
  obtain ⟨⟨s, hp, t⟩, h⟩ := h.openEx 0 rfl
  have h := h.openStar 0 rfl
  have h := h.openStar 0 rfl
  have h := h.openStar 0 rfl
  exact ⟨s, hp, t, h⟩
theorem st_shut {b s hp t : Nat} {m la : Int} {S : Slb} {T : HTbl} (h : Sep F w0 w [stAt b m la s hp t, slabR s S, hpAt hp s, tabR t T]) : Sep F w0 w [stR b m la S T] := by
  have h := h.shutStar 0 3 (by omega) rfl rfl rfl
  have h := Sep.shutStar (Ps := [starR (stAt b m la s hp t) (tabR t T), slabR s S, hpAt hp s]) h 0 2 (by omega) rfl rfl rfl
  have h := Sep.shutStar (Ps := [starR (starR (stAt b m la s hp t) (tabR t T)) (hpAt hp s), slabR s S]) h 0 1 (by omega) rfl rfl rfl
  exact Sep.shutEx (Ps := [starR (starR (starR (stAt b m la s hp t) (tabR t T)) (hpAt hp s)) (slabR s S)]) h 0 (fun (p : Nat × Nat × Nat) => starR (starR (starR (stAt b m la p.1 p.2.1 p.2.2) (tabR p.2.2 T)) (hpAt p.2.1 p.1)) (slabR p.1 S)) (s, hp, t) rfl
/-- The same with something new beside it. -/
theorem st_shutX {b s hp t : Nat} {m la : Int} {S : Slb} {T : HTbl} {X : Res} (h : Sep F w0 w [stAt b m la s hp t, slabR s S, hpAt hp s, tabR t T, X]) : Sep F w0 w [stR b m la S T, X] := by
  have h : Sep F w0 w [stAt b m la s hp t, X, slabR s S, hpAt hp s, tabR t T] := h.pick (fun i => if i = 1 then 4 else if i = 0 then 0 else i - 1) (fun i hi => by match i, hi with | 0, _ => rfl | 1, _ => rfl | 2, _ => rfl | 3, _ => rfl | 4, _ => rfl) (fun i j hi hj hij => by
    simp only [List.length_cons, List.length_nil] at hi hj
    split <;> split <;> (repeat' split) <;> omega)
  have h := h.shutStar 0 4 (by omega) rfl rfl rfl
  have h := Sep.shutStar (Ps := [starR (stAt b m la s hp t) (tabR t T), X, slabR s S, hpAt hp s]) h 0 3 (by omega) rfl rfl rfl
  have h := Sep.shutStar (Ps := [starR (starR (stAt b m la s hp t) (tabR t T)) (hpAt hp s), X, slabR s S]) h 0 2 (by omega) rfl rfl rfl
  exact Sep.shutEx (Ps := [starR (starR (starR (stAt b m la s hp t) (tabR t T)) (hpAt hp s)) (slabR s S), X]) h 0 (fun (p : Nat × Nat × Nat) => starR (starR (starR (stAt b m la p.1 p.2.1 p.2.2) (tabR p.2.2 T)) (hpAt p.2.1 p.1)) (slabR p.1 S)) (s, hp, t) rfl

theorem stnone_call {b s hp t : Nat} {m la : Int} (h : Sep F w0 w Ps) (i : Nat) (hi : Ps[i]? = some (stAt b m la s hp t)) :
    Calls Tryz.prog 96 #[.pointer (some ⟨b, 0, none⟩)] w fun e w' => e = .returned (.bool false) ∧ w = w' := by
  have c2 := (h.cell i hi 2 (v := .pointer (some ⟨s, 0, none⟩)) rfl).1
  clear h hi
  go_enter Tryz.func96, Tryz.ntmps96
  go_wp2
  go_ret
  exact ⟨rfl, rfl⟩

section
variable {b s hp t : Nat} {m la : Int} {S : Slb} {T : HTbl} {H : List Ent} {R : List Rc}

theorem stat_ok (h : Sep F w0 w [stAt b m la s hp t, slabR s S, hpAt hp s, tabR t T]) (I : StInv S T H R) {j : Nat} {r : Rc} (hj : R[j]? = some r) (h0 : 0 ≤ r.a) :
    Calls Tryz.prog 56 #[.pointer (some ⟨b, 0, none⟩), .int .u64 r.h] w fun e w' => e = .returned (.tuple #[.int .i64 r.a, .int .i64 (r.w.length : Nat), .int .i64 0]) ∧ w = w' := by
  have hrm := List.mem_of_getElem? hj
  have hr := I.rng hj
  have he := I.at_eq hj
  rw [if_pos h0] at he
  have had := I.adr hrm h0
  have hn := stnone_call h 0 rfl
  have hat := h.tAt 3 rfl r.h hr.1 hr.2.1 he
  have hrd := h.sRead 1 rfl (r.a + 1) (I.len_eq hrm h0)
  have c2 := (h.cell 0 rfl 2 (v := .pointer (some ⟨s, 0, none⟩)) rfl).1
  have c4 := (h.cell 0 rfl 4 (v := .pointer (some ⟨t, 0, none⟩)) rfl).1
  obtain ⟨n, hn'⟩ : ∃ n, r.w.length = n := ⟨_, rfl⟩
  rw [hn'] at hrd had ⊢
  obtain ⟨a, ha⟩ : ∃ a, r.a = a := ⟨_, rfl⟩
  rw [ha] at hrd had hat ⊢
  obtain ⟨hh, ha⟩ : ∃ a, r.h = a := ⟨_, rfl⟩
  rw [ha] at hat ⊢
  have hw : IntKind.i64.wrap (n : Int) = (n : Int) := by rw [IntKind.wrap_i64]; omega
  clear h I hrm hr he h0 hj hn' ha
  go_enter Tryz.func56, Tryz.ntmps56
  go_wp2_with fail
  refine hn.mono ?_
  rintro e w' ⟨rfl, rfl⟩
  clear hn
  go_wp2_with fail
  refine hat.mono ?_
  rintro e w' ⟨rfl, rfl⟩
  clear hat
  go_wp2_with fail
  refine hrd.mono ?_
  rintro e w' ⟨rfl, rfl⟩
  clear hrd
  go_wp2
  go_ret3
  exact ⟨rfl, rfl⟩

theorem stat_no (h : Sep F w0 w [stAt b m la s hp t, slabR s S, hpAt hp s, tabR t T]) {hh : Int} (h0 : 0 ≤ hh ∧ hh < 18446744073709551616) (he : T.at' hh = (0, 7)) :
    Calls Tryz.prog 56 #[.pointer (some ⟨b, 0, none⟩), .int .u64 hh] w fun e w' => e = .returned (.tuple #[.int .i64 0, .int .i64 0, .int .i64 7]) ∧ w = w' := by
  have hn := stnone_call h 0 rfl
  have hat := h.tAt 3 rfl hh h0.1 h0.2 he
  have c4 := (h.cell 0 rfl 4 (v := .pointer (some ⟨t, 0, none⟩)) rfl).1
  clear h he
  go_enter Tryz.func56, Tryz.ntmps56
  go_wp2_with fail
  refine hn.mono ?_
  rintro e w' ⟨rfl, rfl⟩
  clear hn
  go_wp2_with fail
  refine hat.mono ?_
  rintro e w' ⟨rfl, rfl⟩
  clear hat
  go_wp2
  go_ret3
  exact ⟨rfl, rfl⟩
end
end Go.Proofs.YtpcomekikeoliaaGreatDoor
