/- Package store, walked: Put changes one cell and lays no block. And objects whose blocks lie below a bound. Conditions: the store's records are as said. -/
import Derived.Test.YtfmcddomciicdaaDoorNodeWalk
import Derived.RangeFuncFrom
set_option linter.unusedVariables false
set_option linter.unusedSimpArgs false
set_option maxRecDepth 100000
namespace Go.Proofs.YtfmcddomciicdaaDoor
open Go Go.RowKit

variable {F0 : Nat → Prop} {w0 w : World} {Ps : List Res}

/-- The objects' blocks lie below B. -/
def SepB (B : Nat) (F0 : Nat → Prop) (w0 w : World) (Ps : List Res) : Prop := ∃ F : Nat → Prop, (∀ k, F k → k < B ∧ (F0 k ∨ w0.heap.size ≤ k)) ∧ Mod F0 w0 w ∧ Sep F w w Ps
theorem SepB.of (h : Sep F0 w0 w Ps) : SepB w.heap.size F0 w0 w Ps := by
  obtain ⟨hm, Fs, h1, h2⟩ := h
  refine ⟨fun k => ∃ i R, Ps[i]? = some R ∧ Fs i k, fun k ⟨i, R, hi, hk⟩ => ⟨R.lt (h1 i R hi).1 k hk, (h1 i R hi).2 k hk⟩, hm, Mod.refl _ w, Fs, fun i R hi => ⟨(h1 i R hi).1, fun k hk => .inl ⟨i, R, hi, hk⟩⟩, h2⟩
theorem SepB.sep {B : Nat} (h : SepB B F0 w0 w Ps) : Sep F0 w0 w Ps := by
  obtain ⟨F, hF, hm, _, Fs, h1, h2⟩ := h
  refine ⟨hm, Fs, fun i R hi => ⟨(h1 i R hi).1, fun k hk => ?_⟩, h2⟩
  rcases (h1 i R hi).2 k hk with h | h
  · exact (hF k h).2
  · have := R.lt (h1 i R hi).1 k hk
    omega
theorem SepB.grown {B : Nat} (h : SepB B F0 w0 w Ps) (hB : w0.heap.size ≤ B) {w' : World} {row : Option Nat} (hg : w.grownBy w' row) (hr : ∀ r, row = some r → B ≤ r) : SepB B F0 w0 w' Ps := by
  obtain ⟨F, hF, hm, _, Fs, h1, h2⟩ := h
  have inF : ∀ i R, Ps[i]? = some R → ∀ k, Fs i k → F k := fun i R hi k hk => by
    rcases (h1 i R hi).2 k hk with h | h
    · exact h
    · have := R.lt (h1 i R hi).1 k hk
      omega
  refine ⟨F, hF, hm.grown hg (fun k e => .inr (Nat.le_trans hB (hr k e))), Mod.refl _ w', Fs, fun i R hi => ⟨R.keep (h1 i R hi).1 fun k hk => ?_, fun k hk => .inl (inF i R hi k hk)⟩, h2⟩
  have hlt := R.lt (h1 i R hi).1 k hk
  refine hg.block k hlt (fun e => ?_)
  have := hr k e.symm
  have := (hF k (inF i R hi k hk)).1
  omega
theorem SepB.own {β : Type} {B : Nat} (hB : w0.heap.size ≤ B) (f : β → List Res) : OwnFrom B (fun (s : β) W => SepB B F0 w0 W (f s)) := fun _ _ _ _ hs hg hr => hs.grown hB hg (fun r e => (hr r e).1)
/-- A step that lays no block. -/
theorem SepB.step {B : Nat} (h : SepB B F0 w0 w Ps) : ∃ F, Sep F w w Ps ∧ ∀ (w' : World) (Ps' : List Res), Sep F w w' Ps' → w'.heap.size = w.heap.size → SepB B F0 w0 w' Ps' := by
  obtain ⟨F, hF, hm, hs⟩ := h
  refine ⟨F, hs, fun w' Ps' h' hz => ?_⟩
  obtain ⟨hm', Fs, h1, h2⟩ := h'
  refine ⟨F, hF, hm.trans (hm'.mono fun k _ hk => (hF k hk).2), Mod.refl _ w', Fs, fun i R hi => ⟨(h1 i R hi).1, fun k hk => ?_⟩, h2⟩
  rcases (h1 i R hi).2 k hk with h | h
  · exact .inl h
  · exact .inr (by omega)

theorem size_setCell (w : World) (a : Addr) (v : Value) : (w.setCell a v).heap.size = w.heap.size := by simp [World.setCell]

theorem Sep.sWriteK (h : Sep F0 w0 w Ps) (i : Nat) {s : Nat} {S : Slb} (hi : Ps[i]? = some (slabR s S)) (a v : Int) (v0 : 0 ≤ v) (v1 : v < 18446744073709551616) {S' : Slb} (r : S.write a v = (0, S')) :
    Calls Tryd.prog 45 #[.pointer (some ⟨s, 0, none⟩), .int .i64 a, .int .u64 v] w fun e w' => e = .returned (.int .i64 0) ∧ Sep F0 w0 w' (Ps.set i (slabR s S')) ∧ KeepsOthers w w' ∧ w'.heap.size = w.heap.size := by
  obtain ⟨b, p, hM, hS, back⟩ := h.sGet i hi
  have hok := Slb.write_ok hS a v v0 v1
  rw [r] at hok
  unfold Slb.write at r
  split at r
  · rename_i he
    cases r
    obtain ⟨h0, h1, hin⟩ := Slb.err_zero he
    have ha : ((64 * (a.toNat / 64) + a.toNat % 64 : Nat) : Int) = a := by omega
    have hj := Nat.mod_lt a.toNat (show 0 < 64 by omega)
    have hc := hM.at_some (a.toNat / 64) (a.toNat % 64) hin hj (by omega)
    have hw := hM.word hin hj
    have hf := hM.fz hin (a.toNat % 64)
    have hp := hM.put hin hj v
    rw [show 64 * (a.toNat / 64) + a.toNat % 64 = a.toNat by omega] at hp
    rw [ha] at hc
    have hfin := Lib.hid (back _ b p { S with wd := fun x => if x = a.toNat then v else S.wd x } hp hok ((Mod.refl _ w).setCell _ _ (.inl (.inr (.inr ⟨_, hin, rfl⟩)))) (fun k hk => .inl hk))
    generalize S.wd (64 * (a.toNat / 64) + a.toNat % 64) = x at *
    generalize p (a.toNat / 64) = q at *
    generalize a.toNat % 64 = j at *
    clear hM hS he hin ha h0 h1 hp hj h hi back hok
    go_enter Tryd.func45, Tryd.ntmps45
    go_wp2_with ((with_reducible refine hc.mono ?_); rintro e w' ⟨rfl, rfl⟩)
    go_ret
    exact ⟨rfl, hfin.out, KeepsOthers.setCell _ _ _, size_setCell _ _ _⟩
  · rename_i he
    simp only [Prod.mk.injEq] at r
    exact absurd r.1 he

section
variable {b : Nat} {m la : Int} {S S' : Slb} {T T' : HTbl} {H H' : List Ent} {R R' : List Rc}
theorem stputK_call (h : Sep F0 w0 w Ps) (i : Nat) (hi : Ps[i]? = some (stR b m la S T)) (I : StInv S T H R) {hh k v : Int} (h0 : 0 ≤ hh ∧ hh < 18446744073709551616) (v0 : 0 ≤ v) (v1 : v < 18446744073709551616) (P : Puts S T H R hh k v 0 S' R') :
    Calls Tryd.prog 21 #[.pointer (some ⟨b, 0, none⟩), .int .u64 hh, .int .i64 k, .int .u64 v] w fun e w' => e = .returned (.int .i64 0) ∧ Sep F0 w0 w' (Ps.set i (stR b m la S' T)) ∧ KeepsOthers w w' ∧ w'.heap.size = w.heap.size := by
  obtain ⟨F, h1, back⟩ := h.frame [i] [stR b m la S T] (by simp) (by simp [hi])
  obtain ⟨s, hp, t, h2⟩ := st_open h1
  generalize he : (0 : Int) = er at P
  cases P with
  | stale e => omega
  | arg j r L hk => omega
  | ok j r L i' hk hi2 S' e hpg hq I' =>
    subst hk
    have hpl := stplace_ok h2 I L hi2
    have hwr := h2.sWriteK 1 rfl _ v v0 v1 e
    have c2 := (h2.cell 0 rfl 2 (v := .pointer (some ⟨s, 0, none⟩)) rfl).1
    obtain ⟨p, hp'⟩ : ∃ p, r.a + 2 + (i' : Int) = p := ⟨_, rfl⟩
    rw [hp'] at hpl hwr
    have HB := Lib.hid back
    clear h h1 h2 I I' L hp' hi hi2 e hpg hq back he
    go_enter Tryd.func21, Tryd.ntmps21
    go_wp2_with fail
    refine hpl.mono ?_
    rintro e w' ⟨rfl, rfl⟩
    clear hpl
    go_wp2_with fail
    refine hwr.mono ?_
    rintro e w' ⟨rfl, h3, h4, h5⟩
    have H3 := Lib.hid (And.intro (st_shut h3) (And.intro h4 h5))
    clear hwr h3 h4 h5
    go_wp2
    go_ret
    refine ⟨rfl, ?_, H3.out.2.1, H3.out.2.2⟩
    have := HB.out w' [stR b m la S' T] (Nat.le_refl _) H3.out.1
    simpa [setAt] using this
end
end Go.Proofs.YtfmcddomciicdaaDoor
