/- The plain law of package store: what each call answers, and brings. No program stands here. No condition. -/
import Derived.Test.YtpcomekikeoliaaGreatDoorStoreSpec2
import Derived.Test.YtpcomekikeoliaaGreatDoorHeapE
set_option linter.unusedVariables false
set_option linter.unusedSimpArgs false
set_option maxRecDepth 100000
namespace Go.Proofs.YtpcomekikeoliaaGreatDoor
open Go

section
variable (S : Slb) (T : HTbl) (H : List Ent) (R : List Rc)

/-- Make. -/
inductive Made (n : Int) : Int → Int → Slb → HTbl → List Ent → List Rc → Prop
  | arg (hn : n < 0 ∨ 3998 < n) (I : StInv S T H R) : Made n 0 2 S T H R
  | quota (h0 : 0 ≤ n) (hl : n ≤ 3998) (e : S.halloc (n + 2) = (0, 3, S)) (hq : S.quota < ((S.pg.length : Int) + Slb.pagesOf (n + 2)) * 64) (ho : n + 2 ≤ 28 → ∀ a p N k, ¬ Slb.Open H (clsOf (n + 2)) a p N k) (I : StInv S T H R) : Made n 0 3 S T H R
  | full (h0 : 0 ≤ n) (hl : n ≤ 3998) (a : Nat) (S1 : Slb) (H1 : List Ent) (e : S.halloc (n + 2) = ((a : Int), 0, S1)) (ha : a + n + 2 ≤ 67108864) (A : Slb.Alloced S S1 H H1 a (Slb.roomOf (n + 2))) (W : Slb.AllocWay S S1 H H1 (n + 2) a)
      (hf : (T.free : Int) = T.most) (ho : T.open' (a : Int) = (0, 10, T)) (S2 : Slb) (H2 : List Ent) (e2 : S1.hfree (a : Int) = (0, S2)) (hpg : S2.pg = S.pg) (hq : S2.quota = S.quota) (I : StInv S2 T H2 R) : Made n 0 10 S2 T H2 R
  | ok (h0 : 0 ≤ n) (hl : n ≤ 3998) (a : Nat) (S1 : Slb) (H1 : List Ent) (e : S.halloc (n + 2) = ((a : Int), 0, S1)) (ha : a + n + 2 ≤ 67108864) (A : Slb.Alloced S S1 H H1 a (Slb.roomOf (n + 2))) (W : Slb.AllocWay S S1 H H1 (n + 2) a)
      (hf : (T.free : Int) ≠ T.most) (hd : Int) (S2 S3 : Slb) (ho : T.open' (a : Int) = (hd, 0, T.openK a)) (d0 : 0 ≤ hd) (d1 : hd < 18446744073709551616) (w1 : S1.write (a : Int) hd = (0, S2)) (w2 : S2.write ((a : Int) + 1) n = (0, S3)) (hpg : S3.pg = S1.pg) (hq : S3.quota = S.quota)
      (new : ∀ q ∈ R, q.h ≠ hd) (I : StInv S3 (T.openK a) H1 (R ++ [⟨hd, (a : Int), List.replicate n.toNat 0⟩])) : Made n hd 0 S3 (T.openK a) H1 (R ++ [⟨hd, (a : Int), List.replicate n.toNat 0⟩])

/-- A handle that was told, or names nothing. -/
def Named (hh : Int) : Prop := (∃ (j : Nat) (r : Rc), R[j]? = some r ∧ r.h = hh) ∨ T.at' hh = (0, 7)
/-- A live record's. -/
structure Rec (hh : Int) (j : Nat) (r : Rc) : Prop where
  hj : R[j]? = some r
  h0 : 0 ≤ r.a
  he : r.h = hh

inductive Lens (hh : Int) : Int → Int → Prop
  | stale (e : T.at' hh = (0, 7)) : Lens hh 0 7
  | ok (j : Nat) (r : Rc) (L : Rec R hh j r) : Lens hh (r.w.length : Nat) 0
inductive Gets (hh k : Int) : Int → Int → Prop
  | stale (e : T.at' hh = (0, 7)) : Gets hh k 0 7
  | arg (j : Nat) (r : Rc) (L : Rec R hh j r) (hk : k < 0 ∨ (r.w.length : Int) ≤ k) : Gets hh k 0 2
  | ok (j : Nat) (r : Rc) (L : Rec R hh j r) (i : Nat) (hk : k = (i : Nat)) (x : Int) (hx : r.w[i]? = some x) : Gets hh k x 0
inductive Puts (hh k v : Int) : Int → Slb → List Rc → Prop
  | stale (e : T.at' hh = (0, 7)) (I : StInv S T H R) : Puts hh k v 7 S R
  | arg (j : Nat) (r : Rc) (L : Rec R hh j r) (hk : k < 0 ∨ (r.w.length : Int) ≤ k) (I : StInv S T H R) : Puts hh k v 2 S R
  | ok (j : Nat) (r : Rc) (L : Rec R hh j r) (i : Nat) (hk : k = (i : Nat)) (hi : i < r.w.length) (S' : Slb) (e : S.write (r.a + 2 + (i : Int)) v = (0, S')) (hpg : S'.pg = S.pg) (hq : S'.quota = S.quota) (I : StInv S' T H (R.set j { r with w := r.w.set i v })) : Puts hh k v 0 S' (R.set j { r with w := r.w.set i v })
inductive Drops (hh : Int) : Int → Slb → HTbl → List Ent → List Rc → Prop
  | stale (e : T.at' hh = (0, 7)) (I : StInv S T H R) : Drops hh 7 S T H R
  | ok (j : Nat) (r : Rc) (L : Rec R hh j r) (S2 : Slb) (T2 : HTbl) (H2 : List Ent) (e : S.hfree r.a = (0, S2)) (hq : S2.quota = S.quota) (ec : T.close r.h = (0, T2)) (F : Slb.Freed S S2 H H2 r.a.toNat (Slb.roomOf ((r.w.length : Int) + 2)))
      (I : StInv S2 T2 H2 (R.set j { r with a := -1 })) : Drops hh 0 S2 T2 H2 (R.set j { r with a := -1 })
inductive Slides (hh : Int) : Bool → Int → Slb → HTbl → List Ent → List Rc → Prop
  | stale (e : T.at' hh = (0, 7)) (I : StInv S T H R) : Slides hh false 7 S T H R
  | ok (j : Nat) (r : Rc) (L : Rec R hh j r) (tq : Nat) (S2 : Slb) (T2 : HTbl) (H2 : List Ent) (e : S.hslide r.a = (((tq : Nat) : Int), 0, S2)) (le : (tq : Int) ≤ r.a) (em : T.move r.h (tq : Int) = (0, T2)) (D : Slb.Slid S S2 H H2 r.a.toNat tq (Slb.roomOf ((r.w.length : Int) + 2))) (W : Slb.SlideWay S S2 H H2 r.a.toNat tq)
      (I : StInv S2 T2 H2 (R.set j { r with a := (tq : Int) })) : Slides hh ((tq : Int) != r.a) 0 S2 T2 H2 (R.set j { r with a := (tq : Int) })
end

variable {S : Slb} {T : HTbl} {H : List Ent} {R : List Rc}

theorem Made.inv {n hd er : Int} {S' : Slb} {T' : HTbl} {H' : List Ent} {R' : List Rc} (M : Made S T H R n hd er S' T' H' R') : StInv S' T' H' R' := by cases M <;> assumption
theorem Made.quo {n hd er : Int} {S' : Slb} {T' : HTbl} {H' : List Ent} {R' : List Rc} (M : Made S T H R n hd er S' T' H' R') : S'.quota = S.quota := by cases M <;> first | rfl | assumption
theorem Made.range {n hd er : Int} {S' : Slb} {T' : HTbl} {H' : List Ent} {R' : List Rc} (M : Made S T H R n hd er S' T' H' R') : 0 ≤ hd ∧ hd < 18446744073709551616 ∧ 0 ≤ er ∧ er ≤ 10 := by cases M <;> refine ⟨?_, ?_, ?_, ?_⟩ <;> first | omega | assumption
theorem Made.err {n hd er : Int} {S' : Slb} {T' : HTbl} {H' : List Ent} {R' : List Rc} (M : Made S T H R n hd er S' T' H' R') (he : er ≠ 0) : hd = 0 ∧ R' = R ∧ T' = T ∧ S'.pg = S.pg := by
  cases M with
  | arg => exact ⟨rfl, rfl, rfl, rfl⟩
  | quota => exact ⟨rfl, rfl, rfl, rfl⟩
  | full => exact ⟨rfl, rfl, rfl, by assumption⟩
  | ok => exact absurd rfl he
theorem Made.good {n hd er : Int} {S' : Slb} {T' : HTbl} {H' : List Ent} {R' : List Rc} (M : Made S T H R n hd er S' T' H' R') (he : er = 0) : 0 ≤ n ∧ n ≤ 3998 ∧ (∀ q ∈ R, q.h ≠ hd) ∧ ∃ a : Nat, R' = R ++ [⟨hd, (a : Int), List.replicate n.toNat 0⟩] := by
  cases M with
  | arg => cases he
  | quota => cases he
  | full => cases he
  | ok h0 hl a => exact ⟨h0, hl, by assumption, a, rfl⟩

namespace StInv
theorem made (I : StInv S T H R) (n : Int) : ∃ hd er S' T' H' R', Made S T H R n hd er S' T' H' R' := by
  by_cases hn : n < 0 ∨ 3998 < n
  · exact ⟨_, _, _, _, _, _, .arg hn I⟩
  · obtain ⟨m, rfl⟩ : ∃ m : Nat, n = m := ⟨n.toNat, by omega⟩
    rcases I.make (n := m) (by omega) with ⟨e, hq, ho⟩ | ⟨a, S1, H1, e, A, W, ha, ⟨hf, ho, S2, H2, e2, hpg, hq, I2⟩ | ⟨hf, h, S2, S3, ho, d0, d1, w1, w2, hpg, hq, new, I2⟩⟩
    · exact ⟨_, _, _, _, _, _, .quota (by omega) (by omega) e hq ho I⟩
    · exact ⟨_, _, _, _, _, _, .full (by omega) (by omega) a S1 H1 e (by omega) A W hf ho S2 H2 e2 hpg hq I2⟩
    · exact ⟨_, _, _, _, _, _, .ok (by omega) (by omega) a S1 H1 e (by omega) A W hf h S2 S3 ho d0 d1 w1 w2 hpg hq new I2⟩

theorem see (I : StInv S T H R) {hh : Int} (N : Named T R hh) : (∃ j r, Rec R hh j r) ∨ T.at' hh = (0, 7) := by
  rcases N with ⟨j, r, hj, rfl⟩ | h
  · by_cases h0 : 0 ≤ r.a
    · exact .inl ⟨j, r, hj, h0, rfl⟩
    · have := I.at_eq hj
      rw [if_neg h0] at this
      exact .inr this
  · exact .inr h
theorem named0 (T : HTbl) (R : List Rc) : Named T R 0 := .inr (by
  have : T.okB 0 = false := by unfold HTbl.okB HTbl.place; simp
  unfold HTbl.at'
  rw [this]
  rfl)
theorem namedNew {m la : Int} (R : List Rc) (hh : Int) : Named ⟨m, la, []⟩ R hh := .inr (by
  have : (⟨m, la, []⟩ : HTbl).okB hh = false := by unfold HTbl.okB; simp
  unfold HTbl.at'
  rw [this]
  rfl)
theorem named {j : Nat} {r : Rc} (T : HTbl) (hj : R[j]? = some r) : Named T R r.h := .inl ⟨j, r, hj, rfl⟩

theorem lens (I : StInv S T H R) {hh : Int} (N : Named T R hh) : ∃ x er, Lens T R hh x er := by
  rcases I.see N with ⟨j, r, L⟩ | h
  · exact ⟨_, _, .ok j r L⟩
  · exact ⟨_, _, .stale h⟩
theorem gets (I : StInv S T H R) {hh : Int} (N : Named T R hh) (k : Int) : ∃ x er, Gets T R hh k x er := by
  rcases I.see N with ⟨j, r, L⟩ | h
  · by_cases hk : k < 0 ∨ (r.w.length : Int) ≤ k
    · exact ⟨_, _, .arg j r L hk⟩
    · exact ⟨_, _, .ok j r L k.toNat (by omega) _ (List.getElem?_eq_getElem (by omega))⟩
  · exact ⟨_, _, .stale h⟩
theorem puts (I : StInv S T H R) {hh : Int} (N : Named T R hh) (k : Int) {v : Int} (v0 : 0 ≤ v) (v1 : v < 18446744073709551616) : ∃ er S' R', Puts S T H R hh k v er S' R' := by
  rcases I.see N with ⟨j, r, L⟩ | h
  · by_cases hk : k < 0 ∨ (r.w.length : Int) ≤ k
    · exact ⟨_, _, _, .arg j r L hk I⟩
    · obtain ⟨S', e, hpg, hq, I'⟩ := I.put L.hj L.h0 (k := k.toNat) (by omega) v0 v1
      exact ⟨_, _, _, .ok j r L k.toNat (by omega) (by omega) S' e hpg hq I'⟩
  · exact ⟨_, _, _, .stale h I⟩
theorem drops (I : StInv S T H R) {hh : Int} (N : Named T R hh) : ∃ er S' T' H' R', Drops S T H R hh er S' T' H' R' := by
  rcases I.see N with ⟨j, r, L⟩ | h
  · obtain ⟨S2, H2, e, hq, ec, F, I2⟩ := I.drop L.hj L.h0
    exact ⟨_, _, _, _, _, .ok j r L S2 _ H2 e hq ec F I2⟩
  · exact ⟨_, _, _, _, _, .stale h I⟩
theorem slides (I : StInv S T H R) {hh : Int} (N : Named T R hh) : ∃ is er S' T' H' R', Slides S T H R hh is er S' T' H' R' := by
  rcases I.see N with ⟨j, r, L⟩ | h
  · obtain ⟨tq, S2, H2, e, le, em, D, W, I2⟩ := I.slide L.hj L.h0
    exact ⟨_, _, _, _, _, _, .ok j r L tq S2 _ H2 e le em D W I2⟩
  · exact ⟨_, _, _, _, _, _, .stale h I⟩
end StInv

theorem Puts.inv {hh k v er : Int} {S' : Slb} {R' : List Rc} (P : Puts S T H R hh k v er S' R') : StInv S' T H R' := by cases P <;> assumption
theorem Puts.quo {hh k v er : Int} {S' : Slb} {R' : List Rc} (P : Puts S T H R hh k v er S' R') : S'.quota = S.quota ∧ S'.pg = S.pg := by cases P <;> first | exact ⟨rfl, rfl⟩ | exact ⟨by assumption, by assumption⟩
theorem Drops.inv {hh er : Int} {S' : Slb} {T' : HTbl} {H' : List Ent} {R' : List Rc} (P : Drops S T H R hh er S' T' H' R') : StInv S' T' H' R' := by cases P <;> assumption
theorem Drops.quo {hh er : Int} {S' : Slb} {T' : HTbl} {H' : List Ent} {R' : List Rc} (P : Drops S T H R hh er S' T' H' R') : S'.quota = S.quota := by cases P <;> first | rfl | assumption
theorem Slides.inv {hh er : Int} {is : Bool} {S' : Slb} {T' : HTbl} {H' : List Ent} {R' : List Rc} (P : Slides S T H R hh is er S' T' H' R') : StInv S' T' H' R' := by cases P <;> assumption
theorem Slides.quo {hh er : Int} {is : Bool} {S' : Slb} {T' : HTbl} {H' : List Ent} {R' : List Rc} (P : Slides S T H R hh is er S' T' H' R') : S'.quota = S.quota := by
  cases P with
  | stale => rfl
  | ok j r L tq S2 T2 H2 e le em D W I => exact D.quota

/-! All, Words. -/
/-- The handles of all records, as All tells them. -/
def stAll (S : Slb) : List Int := S.live.map fun a => (S.read a).1
theorem StInv.all_perm (I : StInv S T H R) : (stAll S).Perm ((liveR R).map (·.h)) := by
  unfold stAll
  rw [I.rep.live, List.map_map]
  refine (I.perm.map _).trans ?_
  rw [List.map_map]
  refine List.Perm.of_eq (List.map_congr_left fun r hr => ?_)
  have hm := List.mem_filter.1 hr
  have h0 : 0 ≤ r.a := by simpa using hm.2
  have := I.rep.rdB (I.mem hm.1 h0) (i := 0) (by have := StInv.room (I.words r hm.1 h0).1; dsimp only; omega)
  dsimp only [Nat.add_zero] at this
  show (S.read ((rblk r).1 : Int)).1 = r.h
  dsimp only
  rw [this]
  exact (I.words r hm.1 h0).2.1
theorem StInv.all_len (I : StInv S T H R) : (stAll S).length = (liveR R).length := by rw [I.all_perm.length_eq, List.length_map]
theorem StInv.all_live (I : StInv S T H R) : (stAll S).length = S.live.length := by unfold stAll; rw [List.length_map]
end Go.Proofs.YtpcomekikeoliaaGreatDoor
