/- A table as an object apart from others: the contracts of its methods, and those of the reference's. Conditions: handles are 64-bit words, addresses 64-bit ints. -/
import Derived.Test.YtbcecgbnnpbjbaaHandleRef3
import Derived.Test.YtbcecgbnnpbjbaaHandleTwoWalk
namespace Go.Proofs.Ytbcecgbnnpbjbaa
open Go Go.RowKit

variable {F0 : Nat → Prop} {w0 w : World} {Ps : List Res}

/-- A table. -/
def tabR (t : Nat) (T : HTbl) : Res where
  P w F := ∃ v, Tab w t v T ∧ F = Own t v
  keep := fun {w w' F} ⟨v, h, e⟩ hk => ⟨v, ⟨by rw [hk t (by rw [e]; exact .inl rfl)]; exact h.box, ((rowAt 72 3 v T.l.length (rowOf T.l)).keep ⟨h.row, rfl⟩ (fun k hk' => hk k (by rw [e]; exact .inr hk'))).1, h.ok⟩, e⟩
  lt := fun {w F} ⟨v, h, e⟩ k hk => by
    rw [e] at hk
    rcases hk with rfl | hk
    · exact h.lt
    · exact (rowAt 72 3 v T.l.length (rowOf T.l)).lt ⟨h.row, rfl⟩ k hk

theorem Sep.tabOk (h : Sep F0 w0 w Ps) (i : Nat) {t : Nat} {T : HTbl} (hi : Ps[i]? = some (tabR t T)) : T.Ok := by
  obtain ⟨F, ⟨v, hP, _⟩, _⟩ := h.at_ i hi
  exact hP.ok

theorem Sep.tNew {w' : World} {m l : Int} (h : Sep F0 w0 w Ps) (hT : Tab w' w.heap.size (.slice none 0 0) ⟨m, l, []⟩) (hm : Mod No w w') : Sep F0 w0 w' (Ps ++ [tabR w.heap.size ⟨m, l, []⟩]) :=
  h.push _ _ ⟨_, hT, rfl⟩ hm (fun k hk => hk.elim (fun e => by omega) (fun e => by simp [Value.ownBlock] at e))

theorem Sep.tOpen (h : Sep F0 w0 w Ps) (i : Nat) {t : Nat} {T : HTbl} (hi : Ps[i]? = some (tabR t T)) (a : Int) (a1 : a ≤ 9223372036854775807) {hd er : Int} {T' : HTbl} (r : T.open' a = (hd, er, T')) :
    Calls Try.prog 13 #[.pointer (some ⟨t, 0, none⟩), .int .i64 a] w fun e w' => e = .returned (.tuple #[.int .u64 hd, .int .i64 er]) ∧ Sep F0 w0 w' (Ps.set i (tabR t T')) := by
  obtain ⟨F, ⟨v, hP, hF⟩, _, back⟩ := h.at_ i hi
  refine (hP.open_call a a1).mono fun e w' ⟨he, v', hT, hm, hv⟩ => ?_
  rw [r] at he hT
  exact ⟨he, back _ _ _ ⟨v', hT, rfl⟩ (by rw [hF]; exact hm) (fun k hk => by
    rw [hF]
    rcases hk with rfl | hk
    · exact .inl (.inl rfl)
    · exact hv.elim (fun e => .inl (.inr (e ▸ hk))) (fun e => .inr (e k hk)))⟩

theorem Sep.tClose (h : Sep F0 w0 w Ps) (i : Nat) {t : Nat} {T : HTbl} (hi : Ps[i]? = some (tabR t T)) (n : Int) (n0 : 0 ≤ n) (n1 : n < 18446744073709551616) {er : Int} {T' : HTbl} (r : T.close n = (er, T')) :
    Calls Try.prog 14 #[.pointer (some ⟨t, 0, none⟩), .int .u64 n] w fun e w' => e = .returned (.int .i64 er) ∧ Sep F0 w0 w' (Ps.set i (tabR t T')) := by
  obtain ⟨F, ⟨v, hP, hF⟩, _, back⟩ := h.at_ i hi
  refine (hP.close_call n n0 n1).mono fun e w' ⟨he, hT, hm⟩ => ?_
  rw [r] at he hT
  exact ⟨he, back _ _ _ ⟨v, hT, rfl⟩ (by rw [hF]; exact hm) (fun k hk => .inl (by rw [hF]; exact hk))⟩

theorem Sep.tMove (h : Sep F0 w0 w Ps) (i : Nat) {t : Nat} {T : HTbl} (hi : Ps[i]? = some (tabR t T)) (n a : Int) (n0 : 0 ≤ n) (n1 : n < 18446744073709551616) (a1 : a ≤ 9223372036854775807) {er : Int} {T' : HTbl} (r : T.move n a = (er, T')) :
    Calls Try.prog 16 #[.pointer (some ⟨t, 0, none⟩), .int .u64 n, .int .i64 a] w fun e w' => e = .returned (.int .i64 er) ∧ Sep F0 w0 w' (Ps.set i (tabR t T')) := by
  obtain ⟨F, ⟨v, hP, hF⟩, _, back⟩ := h.at_ i hi
  refine (hP.move_call n a n0 n1 a1).mono fun e w' ⟨he, hT, hm⟩ => ?_
  rw [r] at he hT
  exact ⟨he, back _ _ _ ⟨v, hT, rfl⟩ (by rw [hF]; exact hm) (fun k hk => .inl (by rw [hF]; exact hk))⟩

theorem Sep.tAt (h : Sep F0 w0 w Ps) (i : Nat) {t : Nat} {T : HTbl} (hi : Ps[i]? = some (tabR t T)) (n : Int) (n0 : 0 ≤ n) (n1 : n < 18446744073709551616) {a er : Int} (r : T.at' n = (a, er)) :
    Calls Try.prog 17 #[.pointer (some ⟨t, 0, none⟩), .int .u64 n] w fun e w' => e = .returned (.tuple #[.int .i64 a, .int .i64 er]) ∧ w = w' := by
  obtain ⟨F, ⟨v, hP, hF⟩, _⟩ := h.at_ i hi
  exact (hP.at_call n n0 n1).mono fun e w' ⟨he, hw⟩ => by rw [r] at he; exact ⟨he, hw⟩

theorem Sep.tUsed (h : Sep F0 w0 w Ps) (i : Nat) {t : Nat} {T : HTbl} (hi : Ps[i]? = some (tabR t T)) :
    Calls Try.prog 15 #[.pointer (some ⟨t, 0, none⟩)] w fun e w' => e = .returned (.int .i64 T.l.length) ∧ w = w' := by
  obtain ⟨F, ⟨v, hP, hF⟩, _⟩ := h.at_ i hi
  exact hP.used_call

theorem Sep.tLive (h : Sep F0 w0 w Ps) (i : Nat) {t : Nat} {T : HTbl} (hi : Ps[i]? = some (tabR t T)) :
    Calls Try.prog 18 #[.pointer (some ⟨t, 0, none⟩)] w fun e w' => ∃ sa cap, e = .returned (.slice sa T.live.length cap) ∧ Sep F0 w0 w' (Ps ++ [intsAt 31 .u64 (.slice sa T.live.length cap) T.live]) := by
  obtain ⟨F, ⟨v, hP, hF⟩, _⟩ := h.at_ i hi
  refine hP.live_call.mono fun e w' ⟨v', he, hr, hm, hn⟩ => ?_
  obtain ⟨sa, cap, rfl⟩ : ∃ sa cap, v' = .slice sa T.live.length cap := by
    obtain ⟨rfl, hz⟩ | ⟨g, cap, rfl⟩ := Joins.ownsRow_forms hr
    · exact ⟨none, 0, by rw [hz]⟩
    · exact ⟨_, _, rfl⟩
  exact ⟨sa, cap, he, h.push _ _ ⟨hr, rfl⟩ hm hn⟩

/-- A contract on one object by itself is one on it among others. -/
theorem Sep.lift (h : Sep F0 w0 w Ps) (i : Nat) {R R' : Res} (hi : Ps[i]? = some R) {P : Program} {f : FuncId} {args : Array Value} {e0 : Ending}
    (hc : ∀ F, Sep F w w [R] → Calls P f args w fun e w' => e = e0 ∧ Sep F w w' [R']) : Calls P f args w fun e w' => e = e0 ∧ Sep F0 w0 w' (Ps.set i R') := by
  obtain ⟨F, h1, back⟩ := h.frame [i] [R] (by simp) (by simp [hi])
  refine (hc F h1).mono fun e w' ⟨he, hs⟩ => ⟨he, ?_⟩
  have := back w' [R'] (Nat.le_refl _) hs
  simpa [setAt] using this

theorem Sep.rOpen (h : Sep F0 w0 w Ps) (i : Nat) {b : Nat} {T : HTbl} (hi : Ps[i]? = some (rtabR b T)) (hT : T.Ok) (a : Int) (a1 : a ≤ 9223372036854775807) {hd er : Int} {T' : HTbl} (r : T.open' a = (hd, er, T')) :
    Calls Try.prog 29 #[.pointer (some ⟨b, 0, none⟩), .int .i64 a] w fun e w' => e = .returned (.tuple #[.int .u64 hd, .int .i64 er]) ∧ Sep F0 w0 w' (Ps.set i (rtabR b T')) :=
  h.lift i hi fun F hF => by have := ropen_call hF hT a a1; rw [r] at this; exact this

theorem Sep.rClose (h : Sep F0 w0 w Ps) (i : Nat) {b : Nat} {T : HTbl} (hi : Ps[i]? = some (rtabR b T)) (hT : T.Ok) (n : Int) (n0 : 0 ≤ n) (n1 : n < 18446744073709551616) {er : Int} {T' : HTbl} (r : T.close n = (er, T')) :
    Calls Try.prog 32 #[.pointer (some ⟨b, 0, none⟩), .int .u64 n] w fun e w' => e = .returned (.int .i64 er) ∧ Sep F0 w0 w' (Ps.set i (rtabR b T')) :=
  h.lift i hi fun F hF => by have := rclose_call hF hT n n0 n1; rw [r] at this; exact this

theorem Sep.rMove (h : Sep F0 w0 w Ps) (i : Nat) {b : Nat} {T : HTbl} (hi : Ps[i]? = some (rtabR b T)) (hT : T.Ok) (n a : Int) (n0 : 0 ≤ n) (n1 : n < 18446744073709551616) {er : Int} {T' : HTbl} (r : T.move n a = (er, T')) :
    Calls Try.prog 31 #[.pointer (some ⟨b, 0, none⟩), .int .u64 n, .int .i64 a] w fun e w' => e = .returned (.int .i64 er) ∧ Sep F0 w0 w' (Ps.set i (rtabR b T')) :=
  h.lift i hi fun F hF => by have := rmove_call hF hT n a n0 n1; rw [r] at this; exact this

/-- What is known of the reference's table: its three cells, its slots. -/
theorem Sep.rFacts (h : Sep F0 w0 w Ps) (i : Nat) {b : Nat} {T : HTbl} (hi : Ps[i]? = some (rtabR b T)) :
    ∃ sa cap, w.cell? ⟨b, 0, none⟩ = some (.int .i64 T.most) ∧ w.cell? ⟨b, 1, none⟩ = some (.int .u32 T.last) ∧ w.cell? ⟨b, 2, none⟩ = some (.slice sa T.l.length cap) ∧ w.ownsRow 0 81 3 (.slice sa T.l.length cap) T.l.length (rrow T.l) := by
  obtain ⟨F, h1, _⟩ := h.frame [i] [rtabR b T] (by simp) (by simp [hi])
  obtain ⟨sa, cap, h2⟩ := rtab_open h1
  exact ⟨sa, cap, (h2.cell 0 rfl 0 rfl).1, (h2.cell 0 rfl 1 rfl).1, (h2.cell 0 rfl 2 rfl).1, h2.row 1 rfl⟩

theorem Sep.nth (h : Sep F0 w0 w Ps) (i : Nat) {sa : Option Addr} {L cap : Nat} {ls : List Int} (hi : Ps[i]? = some (intsAt 31 .u64 (.slice sa L cap) ls)) (hl : ls.length = L) (hb : L ≤ 1000) (hx : ∀ x ∈ ls, 0 ≤ x ∧ x < 18446744073709551616) (n : Int) (hn : -9223372036854775808 ≤ n ∧ n ≤ 9223372036854775807) :
    Calls Try.prog 19 #[.slice sa L cap, .int .i64 n] w fun e w' => (∃ x : Int, e = .returned (.int .u64 x) ∧ 0 ≤ x ∧ x < 18446744073709551616) ∧ w = w' :=
  nth_call (w0 := { w with heap := #[] }) ⟨by subst hl; exact h.row i hi, fun _ _ => Nat.zero_le _⟩ hl hb hx n hn
end Go.Proofs.Ytbcecgbnnpbjbaa
