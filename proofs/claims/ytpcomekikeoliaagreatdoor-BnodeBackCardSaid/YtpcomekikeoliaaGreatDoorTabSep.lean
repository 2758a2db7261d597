/- A table as an object apart from others: the contracts of its methods. Conditions: handles are 64-bit words, addresses 64-bit ints. -/
import Derived.Test.YtpcomekikeoliaaGreatDoorHandleLive
import Derived.Test.YtpcomekikeoliaaGreatDoorGround
set_option linter.unusedVariables false
set_option linter.unusedSimpArgs false
set_option maxRecDepth 100000
namespace Go.Proofs.YtpcomekikeoliaaGreatDoor
open Go Go.RowKit

variable {F0 : Nat → Prop} {w0 w : World} {Ps : List Res}

/-- A table. -/
def tabR (t : Nat) (T : HTbl) : Res where
  P w F := ∃ v, Tab w t v T ∧ F = Own t v
  keep := fun {w w' F} ⟨v, h, e⟩ hk => ⟨v, ⟨by rw [hk t (by rw [e]; exact .inl rfl)]; exact h.box, ((rowAt 160 3 v T.l.length (rowOf T.l)).keep ⟨h.row, rfl⟩ (fun k hk' => hk k (by rw [e]; exact .inr hk'))).1, h.ok⟩, e⟩
  lt := fun {w F} ⟨v, h, e⟩ k hk => by
    rw [e] at hk
    rcases hk with rfl | hk
    · exact h.lt
    · exact (rowAt 160 3 v T.l.length (rowOf T.l)).lt ⟨h.row, rfl⟩ k hk

theorem Sep.tabOk (h : Sep F0 w0 w Ps) (i : Nat) {t : Nat} {T : HTbl} (hi : Ps[i]? = some (tabR t T)) : T.Ok := by
  obtain ⟨F, ⟨v, hP, _⟩, _⟩ := h.at_ i hi
  exact hP.ok

theorem Sep.tNew {w' : World} {m l : Int} (h : Sep F0 w0 w Ps) (hT : Tab w' w.heap.size (.slice none 0 0) ⟨m, l, []⟩) (hm : Mod No w w') : Sep F0 w0 w' (Ps ++ [tabR w.heap.size ⟨m, l, []⟩]) :=
  h.push _ _ ⟨_, hT, rfl⟩ hm (fun k hk => hk.elim (fun e => by omega) (fun e => by simp [Value.ownBlock] at e))

theorem Sep.tOpen (h : Sep F0 w0 w Ps) (i : Nat) {t : Nat} {T : HTbl} (hi : Ps[i]? = some (tabR t T)) (a : Int) (a1 : a ≤ 9223372036854775807) {hd er : Int} {T' : HTbl} (r : T.open' a = (hd, er, T')) :
    Calls Tryz.prog 98 #[.pointer (some ⟨t, 0, none⟩), .int .i64 a] w fun e w' => e = .returned (.tuple #[.int .u64 hd, .int .i64 er]) ∧ Sep F0 w0 w' (Ps.set i (tabR t T')) := by
  obtain ⟨F, ⟨v, hP, hF⟩, _, back⟩ := h.at_ i hi
  refine (hP.open_call a a1).mono fun e w' ⟨he, v', hT, hm, hv⟩ => ?_
  rw [r] at he hT
  exact ⟨he, back _ _ _ ⟨v', hT, rfl⟩ (by rw [hF]; exact hm) (fun k hk => by
    rw [hF]
    rcases hk with rfl | hk
    · exact .inl (.inl rfl)
    · exact hv.elim (fun e => .inl (.inr (e ▸ hk))) (fun e => .inr (e k hk)))⟩

theorem Sep.tMove (h : Sep F0 w0 w Ps) (i : Nat) {t : Nat} {T : HTbl} (hi : Ps[i]? = some (tabR t T)) (n a : Int) (n0 : 0 ≤ n) (n1 : n < 18446744073709551616) (a1 : a ≤ 9223372036854775807) {er : Int} {T' : HTbl} (r : T.move n a = (er, T')) :
    Calls Tryz.prog 57 #[.pointer (some ⟨t, 0, none⟩), .int .u64 n, .int .i64 a] w fun e w' => e = .returned (.int .i64 er) ∧ Sep F0 w0 w' (Ps.set i (tabR t T')) := by
  obtain ⟨F, ⟨v, hP, hF⟩, _, back⟩ := h.at_ i hi
  refine (hP.move_call n a n0 n1 a1).mono fun e w' ⟨he, hT, hm⟩ => ?_
  rw [r] at he hT
  exact ⟨he, back _ _ _ ⟨v, hT, rfl⟩ (by rw [hF]; exact hm) (fun k hk => .inl (by rw [hF]; exact hk))⟩

theorem Sep.tAt (h : Sep F0 w0 w Ps) (i : Nat) {t : Nat} {T : HTbl} (hi : Ps[i]? = some (tabR t T)) (n : Int) (n0 : 0 ≤ n) (n1 : n < 18446744073709551616) {a er : Int} (r : T.at' n = (a, er)) :
    Calls Tryz.prog 101 #[.pointer (some ⟨t, 0, none⟩), .int .u64 n] w fun e w' => e = .returned (.tuple #[.int .i64 a, .int .i64 er]) ∧ w = w' := by
  obtain ⟨F, ⟨v, hP, hF⟩, _⟩ := h.at_ i hi
  exact (hP.at_call n n0 n1).mono fun e w' ⟨he, hw⟩ => by rw [r] at he; exact ⟨he, hw⟩

end Go.Proofs.YtpcomekikeoliaaGreatDoor
