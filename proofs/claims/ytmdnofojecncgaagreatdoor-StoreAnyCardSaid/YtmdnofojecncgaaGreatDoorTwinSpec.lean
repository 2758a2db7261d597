/- The plain law of StoreRaw: two stores that differ in dead slots' addresses alone answer alike. No program stands here. No condition. -/
import Derived.Test.YtmdnofojecncgaaGreatDoorStAny
import Derived.Test.YtmdnofojecncgaaGreatDoorHandleRawSpec
import Derived.Test.YtmdnofojecncgaaGreatDoorFillSpec
set_option linter.unusedVariables false
set_option linter.unusedSimpArgs false
set_option maxRecDepth 100000
namespace Go.Proofs.YtmdnofojecncgaaGreatDoor
open Go

namespace HTbl
variable {T U : HTbl}
theorem Twin.symm (h : Twin T U) : Twin U T := Eq.symm h
theorem Twin.get (h : Twin T U) (k : Nat) : (T.l[k]?).map nS = (U.l[k]?).map nS := by
  have : T.norm.l[k]? = U.norm.l[k]? := by rw [show T.norm = U.norm from h]
  rwa [norm_get, norm_get] at this
theorem Twin.most (h : Twin T U) : U.most = T.most := (congrArg HTbl.most h).symm
theorem Twin.last (h : Twin T U) : U.last = T.last := (congrArg HTbl.last h).symm
theorem Twin.free (h : Twin T U) : U.free = T.free := by rw [← norm_free T, ← norm_free U, h]
theorem Twin.okB (h : Twin T U) (x : Int) : U.okB x = T.okB x := by rw [← norm_okB T, ← norm_okB U, h]
theorem opens_norm (T : HTbl) : T.norm.opens = T.opens := by
  unfold opens norm
  dsimp only
  rw [List.countP_map]
  apply List.countP_congr
  intro s _
  simp only [Function.comp, nS_is]
theorem Twin.opens (h : Twin T U) : U.opens = T.opens := by rw [← opens_norm T, ← opens_norm U, h]
theorem Twin.once {ls ms : List Int} (h : Twin T U) (I : OnceInv T ls ms) : OnceInv U ls ms := by
  refine ⟨I.len, I.nd, fun n hh a h1 h2 => ?_⟩
  obtain ⟨s, p0, hs, a0, a1, a2, hl, hd, b1, b2⟩ := I.each n hh a h1 h2
  have hg := h.get (place hh).toNat
  rw [hs] at hg
  obtain ⟨u, hu, e⟩ := Option.map_eq_some_iff.1 hg.symm
  have e1 : u.is = s.is := by have := congrArg HSlot.is e; rwa [nS_is, nS_is] at this
  have e2 : u.gen = s.gen := by have := congrArg HSlot.gen e; rwa [nS_gen, nS_gen] at this
  refine ⟨u, p0, hu, a0, a1, by rw [e2]; exact a2, fun h0 => ?_, fun h0 => by rw [h.okB]; exact hd h0, b1, b2⟩
  obtain ⟨c1, c2, c3⟩ := hl h0
  refine ⟨by rw [e1]; exact c1, by rw [e2]; exact c2, ?_⟩
  rw [nS_one c1, nS_one (by rw [e1]; exact c1)] at e
  rw [e]; exact c3
theorem norm_ok (h : T.Ok) : T.norm.Ok := by
  have hr := raw_ok h
  rw [← ofRaw_raw h]
  refine ofRaw_ok h.most1 h.most2 h.last1 h.last2 ?_ (fun r hm => (hr r hm).1) (fun r hm => (hr r hm).2)
  unfold raw
  rw [List.length_map]
  exact h.len
end HTbl

section
variable {S S' S2 : Slb} {T T' U U' : HTbl} {H H' H2 : List Ent} {R R' R2 : List Rc}
theorem StInv.twin (I : StInv S T H R) (hU : U.Ok) (h : HTbl.Twin T U) : StInv S U H R :=
  ⟨I.rep, hU, h.once I.once, I.perm, I.words, by rw [h.opens]; exact I.live⟩
theorem StInv.heads_eq (I : StInv S T H R) (I2 : StInv S U H2 R2) : H = H2 := I.rep.heads.symm.trans I2.rep.heads

theorem Made.twin {n hd er hd2 er2 : Int} (h : HTbl.Twin T U) (M : Made S T H R n hd er S' T' H' R') (M2 : Made S U H R n hd2 er2 S2 U' H2 R2) : hd2 = hd ∧ er2 = er ∧ S2 = S' ∧ R2 = R' ∧ HTbl.Twin T' U' := by
  have hf := h.free
  have hm := h.most
  cases M with
  | arg hn =>
    cases M2 with
    | arg => exact ⟨rfl, rfl, rfl, rfl, h⟩
    | _ => omega
  | quota h0 hl e =>
    cases M2 with
    | arg => omega
    | quota => exact ⟨rfl, rfl, rfl, rfl, h⟩
    | full _ _ a S1 H1 e' => rw [e] at e'; simp at e'
    | ok _ _ a S1 H1 e' => rw [e] at e'; simp at e'
  | full h0 hl a S1 H1 e ha A W hf1 ho S3 H3 e2 =>
    cases M2 with
    | arg => omega
    | quota _ _ e' => rw [e] at e'; simp at e'
    | full _ _ a' S1' H1' e' ha' A' W' hf1' ho' S3' H3' e2' =>
      rw [e] at e'
      simp only [Prod.mk.injEq, true_and] at e'
      obtain ⟨e4, rfl⟩ := e'
      rw [← e4, e2] at e2'
      simp only [Prod.mk.injEq, true_and] at e2'
      exact ⟨rfl, rfl, e2'.symm, rfl, h⟩
    | ok _ _ a' S1' H1' e' ha' A' W' hf1' => omega
  | ok h0 hl a S1 H1 e ha A W hf1 hd S3 S4 ho d0 d1 w1 w2 =>
    cases M2 with
    | arg => omega
    | quota _ _ e' => rw [e] at e'; simp at e'
    | full _ _ a' S1' H1' e' ha' A' W' hf1' => omega
    | ok _ _ a' S1' H1' e' ha' A' W' hf1' hd' S3' S4' ho' d0' d1' w1' w2' =>
      rw [e] at e'
      simp only [Prod.mk.injEq, true_and] at e'
      obtain ⟨e4, rfl⟩ := e'
      obtain rfl : a = a' := by omega
      obtain ⟨t1, t2, t3⟩ := h.open_ (a : Int)
      rw [ho, ho'] at t1 t3
      dsimp only at t1 t3
      subst t1
      rw [w1] at w1'
      simp only [Prod.mk.injEq, true_and] at w1'
      subst w1'
      rw [w2] at w2'
      simp only [Prod.mk.injEq, true_and] at w2'
      exact ⟨rfl, rfl, w2'.symm, rfl, t3⟩
theorem Drops.twin {hh er er2 : Int} (I : StInv S T H R) (h : HTbl.Twin T U) (D : Drops S T H R hh er S' T' H' R') (D2 : Drops S U H R hh er2 S2 U' H2 R2) : er2 = er ∧ S2 = S' ∧ R2 = R' ∧ HTbl.Twin T' U' := by
  have hat := h.at_ hh
  cases D with
  | stale e =>
    cases D2 with
    | stale => exact ⟨rfl, rfl, rfl, h⟩
    | ok j r L => exact absurd e (Rec.not_stale I L)
  | ok j r L S3 T3 H3 e hq ec =>
    cases D2 with
    | stale e' => exact absurd (hat ▸ e') (Rec.not_stale I L)
    | ok j' r' L' S3' T3' H3' e' hq' ec' =>
      obtain ⟨rfl, rfl⟩ := rec_eq I L L'
      rw [e] at e'
      simp only [Prod.mk.injEq, true_and] at e'
      obtain ⟨_, t2⟩ := h.close_ r.h
      rw [ec, ec'] at t2
      exact ⟨rfl, e'.symm, rfl, t2⟩
theorem Puts.twin {hh k v er er2 : Int} (I : StInv S T H R) (h : HTbl.Twin T U) (D : Puts S T H R hh k v er S' R') (D2 : Puts S U H R hh k v er2 S2 R2) : er2 = er ∧ S2 = S' ∧ R2 = R' := by
  have hat := h.at_ hh
  cases D with
  | stale e =>
    cases D2 with
    | stale => exact ⟨rfl, rfl, rfl⟩
    | arg j r L => exact absurd e (Rec.not_stale I L)
    | ok j r L => exact absurd e (Rec.not_stale I L)
  | arg j r L hk =>
    cases D2 with
    | stale e' => exact absurd (hat ▸ e') (Rec.not_stale I L)
    | arg => exact ⟨rfl, rfl, rfl⟩
    | ok j' r' L' i hi hil => obtain ⟨rfl, rfl⟩ := rec_eq I L L'; omega
  | ok j r L i hi hil S3 e =>
    cases D2 with
    | stale e' => exact absurd (hat ▸ e') (Rec.not_stale I L)
    | arg j' r' L' hk => obtain ⟨rfl, rfl⟩ := rec_eq I L L'; omega
    | ok j' r' L' i' hi' hil' S3' e' =>
      obtain ⟨rfl, rfl⟩ := rec_eq I L L'
      obtain rfl : i = i' := by omega
      rw [e] at e'
      simp only [Prod.mk.injEq, true_and] at e'
      exact ⟨rfl, e'.symm, rfl⟩
theorem Gets.twin {hh k x er x2 er2 : Int} (I : StInv S T H R) (h : HTbl.Twin T U) (D : Gets T R hh k x er) (D2 : Gets U R hh k x2 er2) : x2 = x ∧ er2 = er := by
  have hat := h.at_ hh
  cases D with
  | stale e =>
    cases D2 with
    | stale => exact ⟨rfl, rfl⟩
    | arg j r L => exact absurd e (Rec.not_stale I L)
    | ok j r L => exact absurd e (Rec.not_stale I L)
  | arg j r L hk =>
    cases D2 with
    | stale e' => exact absurd (hat ▸ e') (Rec.not_stale I L)
    | arg => exact ⟨rfl, rfl⟩
    | ok j' r' L' i hi y hy => obtain ⟨rfl, rfl⟩ := rec_eq I L L'; have := (List.getElem?_eq_some_iff.1 hy).1; omega
  | ok j r L i hi y hy =>
    cases D2 with
    | stale e' => exact absurd (hat ▸ e') (Rec.not_stale I L)
    | arg j' r' L' hk => obtain ⟨rfl, rfl⟩ := rec_eq I L L'; have := (List.getElem?_eq_some_iff.1 hy).1; omega
    | ok j' r' L' i' hi' y' hy' =>
      obtain ⟨rfl, rfl⟩ := rec_eq I L L'
      obtain rfl : i = i' := by omega
      rw [hy] at hy'
      cases hy'
      exact ⟨rfl, rfl⟩
theorem Slides.twin {hh er er2 : Int} {is is2 : Bool} (I : StInv S T H R) (h : HTbl.Twin T U) (D : Slides S T H R hh is er S' T' H' R') (D2 : Slides S U H R hh is2 er2 S2 U' H2 R2) : is2 = is ∧ er2 = er ∧ S2 = S' ∧ R2 = R' ∧ HTbl.Twin T' U' := by
  have hat := h.at_ hh
  cases D with
  | stale e =>
    cases D2 with
    | stale => exact ⟨rfl, rfl, rfl, rfl, h⟩
    | ok j r L => exact absurd e (Rec.not_stale I L)
  | ok j r L tq S3 T3 H3 e le em =>
    cases D2 with
    | stale e' => exact absurd (hat ▸ e') (Rec.not_stale I L)
    | ok j' r' L' tq' S3' T3' H3' e' le' em' =>
      obtain ⟨rfl, rfl⟩ := rec_eq I L L'
      rw [e] at e'
      simp only [Prod.mk.injEq, true_and] at e'
      obtain ⟨e1, rfl⟩ := e'
      obtain rfl : tq = tq' := by omega
      obtain ⟨_, t2⟩ := h.move_ r.h (tq : Int)
      rw [em, em'] at t2
      exact ⟨rfl, rfl, rfl, rfl, t2⟩
end

/-! A call of the laws of package loftlaw06. -/
/-- What a call answers, and brings. -/
inductive SStep (r : List Int) (S : Slb) (T : HTbl) (H : List Ent) (R : List Rc) : Int → Slb → HTbl → List Ent → List Rc → Prop
  | make {hd er : Int} {S' : Slb} {T' : HTbl} {H' : List Ent} {R' : List Rc} (e : r.getD 0 0 = 1) (M : Made S T H R (r.getD 2 0) hd er S' T' H' R') : SStep r S T H R (IntKind.u64.wrap (IntKind.u64.wrap (hd * 16) + er)) S' T' H' R'
  | drop {er : Int} {S' : Slb} {T' : HTbl} {H' : List Ent} {R' : List Rc} (e : r.getD 0 0 = 2) (D : Drops S T H R (nthI (R.map (·.h)) (r.getD 1 0)) er S' T' H' R') : SStep r S T H R er S' T' H' R'
  | put {er : Int} {S' : Slb} {R' : List Rc} (e : r.getD 0 0 = 3) (P : Puts S T H R (nthI (R.map (·.h)) (r.getD 1 0)) (r.getD 2 0) (r.getD 3 0) er S' R') : SStep r S T H R er S' T H R'
  | get {x er : Int} (e : r.getD 0 0 = 4) (G : Gets T R (nthI (R.map (·.h)) (r.getD 1 0)) (r.getD 2 0) x er) : SStep r S T H R (IntKind.u64.wrap (IntKind.u64.wrap (x * 16) + er)) S T H R
  | slide {is : Bool} {er : Int} {S' : Slb} {T' : HTbl} {H' : List Ent} {R' : List Rc} (e1 : r.getD 0 0 ≠ 1) (e2 : r.getD 0 0 ≠ 2) (e3 : r.getD 0 0 ≠ 3) (e4 : r.getD 0 0 ≠ 4) (D : Slides S T H R (nthI (R.map (·.h)) (r.getD 1 0)) is er S' T' H' R') :
      SStep r S T H R (if is then 100 + er else er) S' T' H' R'

section
variable {S S' S2 : Slb} {T T' U U' : HTbl} {H H' H2 : List Ent} {R R' R2 : List Rc} {r : List Int} {a a2 : Int}
theorem SStep.inv (D : SStep r S T H R a S' T' H' R') (I : StInv S T H R) : StInv S' T' H' R' := by
  cases D with
  | make e M => exact M.inv
  | drop e D => exact D.inv
  | put e P => exact P.inv
  | get e G => exact I
  | slide _ _ _ _ D => exact D.inv
theorem SStep.quo (D : SStep r S T H R a S' T' H' R') : S'.quota = S.quota := by
  cases D with
  | make e M => exact M.quo
  | drop e D => exact D.quo
  | put e P => exact P.quo.1
  | get e G => rfl
  | slide _ _ _ _ D => exact D.quo
theorem open_ml {a hd er : Int} (h : T.open' a = (hd, er, T')) : T'.most = T.most ∧ T'.last = T.last := by
  unfold HTbl.open' at h
  split at h
  · cases h; exact ⟨rfl, rfl⟩
  · split at h
    · cases h; exact ⟨rfl, rfl⟩
    · cases h; exact ⟨rfl, rfl⟩
theorem SStep.ml (D : SStep r S T H R a S' T' H' R') : T'.most = T.most ∧ T'.last = T.last := by
  cases D with
  | make e M =>
    cases M with
    | ok h0 hl a S1 H1 e ha A W hf1 hd S3 S4 ho => exact open_ml ho
    | _ => exact ⟨rfl, rfl⟩
  | drop e D =>
    cases D with
    | stale => exact ⟨rfl, rfl⟩
    | ok j r L S3 T3 H3 e hq ec =>
      have e2 : (T.close r.h).2 = T' := by rw [ec]
      subst e2
      exact ⟨HTbl.close_most _ |>.1, HTbl.close_most _ |>.2⟩
  | put e P => exact ⟨rfl, rfl⟩
  | get e G => exact ⟨rfl, rfl⟩
  | slide _ _ _ _ D =>
    cases D with
    | stale => exact ⟨rfl, rfl⟩
    | ok j r L tq S3 T3 H3 e le em =>
      have e2 : (T.move r.h (tq : Int)).2 = T' := by rw [em]
      subst e2
      exact ⟨(HTbl.move_most _ _).1, (HTbl.move_most _ _).2⟩
theorem Slides.hs {hh er : Int} {is : Bool} (D : Slides S T H R hh is er S' T' H' R') : R'.map (·.h) = R.map (·.h) := D.moved.hs
theorem SStep.len (D : SStep r S T H R a S' T' H' R') : R.length ≤ R'.length ∧ R'.length ≤ R.length + 1 := by
  cases D with
  | make e M => exact M.len
  | drop e D => have := congrArg List.length D.hs; rw [List.length_map, List.length_map] at this; omega
  | put e P => have := congrArg List.length P.hs; rw [List.length_map, List.length_map] at this; omega
  | get e G => exact ⟨Nat.le_refl _, by omega⟩
  | slide _ _ _ _ D => have := congrArg List.length D.hs; rw [List.length_map, List.length_map] at this; omega
theorem nth_named (T : HTbl) (R : List Rc) (S : Slb) (H : List Ent) (n : Int) : Named T R (nthI (R.map (·.h)) n) := (⟨S, T, H, R, 0⟩ : FSt).named n
theorem StInv.nth_range (I : StInv S T H R) (n : Int) : 0 ≤ nthI (R.map (·.h)) n ∧ nthI (R.map (·.h)) n < 18446744073709551616 := FSt.Inv.nth_rng (s := ⟨S, T, H, R, 0⟩) ⟨I, Nat.zero_le _⟩ n
theorem SStep.ex (I : StInv S T H R) (hx : 0 ≤ r.getD 3 0 ∧ r.getD 3 0 < 18446744073709551616) : ∃ a S' T' H' R', SStep r S T H R a S' T' H' R' := by
  have hN := nth_named T R S H (r.getD 1 0)
  by_cases e1 : r.getD 0 0 = 1
  · obtain ⟨hd, er, S', T', H', R', M⟩ := I.made (r.getD 2 0)
    exact ⟨_, _, _, _, _, .make e1 M⟩
  · by_cases e2 : r.getD 0 0 = 2
    · obtain ⟨er, S', T', H', R', D⟩ := I.drops hN
      exact ⟨_, _, _, _, _, .drop e2 D⟩
    · by_cases e3 : r.getD 0 0 = 3
      · obtain ⟨er, S', R', P⟩ := I.puts hN (r.getD 2 0) hx.1 hx.2
        exact ⟨_, _, _, _, _, .put e3 P⟩
      · by_cases e4 : r.getD 0 0 = 4
        · obtain ⟨x, er, G⟩ := I.gets hN (r.getD 2 0)
          exact ⟨_, _, _, _, _, .get e4 G⟩
        · obtain ⟨is, er, S', T', H', R', D⟩ := I.slides hN
          exact ⟨_, _, _, _, _, .slide e1 e2 e3 e4 D⟩
theorem SStep.twin (I : StInv S T H R) (h : HTbl.Twin T U) (D : SStep r S T H R a S' T' H' R') (D2 : SStep r S U H R a2 S2 U' H2 R2) : a2 = a ∧ S2 = S' ∧ R2 = R' ∧ HTbl.Twin T' U' := by
  cases D with
  | make e M =>
    cases D2 with
    | make _ M2 => obtain ⟨rfl, rfl, h1, h2, h3⟩ := M.twin h M2; exact ⟨rfl, h1, h2, h3⟩
    | drop e' => rw [e] at e'; cases e'
    | put e' => rw [e] at e'; cases e'
    | get e' => rw [e] at e'; cases e'
    | slide e' => exact absurd e e'
  | drop e D =>
    cases D2 with
    | drop _ D2 => exact D.twin I h D2
    | make e' => rw [e] at e'; cases e'
    | put e' => rw [e] at e'; cases e'
    | get e' => rw [e] at e'; cases e'
    | slide _ e' => exact absurd e e'
  | put e P =>
    cases D2 with
    | put _ P2 => obtain ⟨h1, h2, h3⟩ := P.twin I h P2; exact ⟨h1, h2, h3, h⟩
    | make e' => rw [e] at e'; cases e'
    | drop e' => rw [e] at e'; cases e'
    | get e' => rw [e] at e'; cases e'
    | slide _ _ e' => exact absurd e e'
  | get e G =>
    cases D2 with
    | get _ G2 => obtain ⟨rfl, rfl⟩ := G.twin I h G2; exact ⟨rfl, rfl, rfl, h⟩
    | make e' => rw [e] at e'; cases e'
    | drop e' => rw [e] at e'; cases e'
    | put e' => rw [e] at e'; cases e'
    | slide _ _ _ e' => exact absurd e e'
  | slide e1 e2 e3 e4 D =>
    cases D2 with
    | slide _ _ _ _ D2 => obtain ⟨rfl, rfl, h1, h2, h3⟩ := D.twin I h D2; exact ⟨rfl, h1, h2, h3⟩
    | make e => exact absurd e e1
    | drop e => exact absurd e e2
    | put e => exact absurd e e3
    | get e => exact absurd e e4
end
end Go.Proofs.YtmdnofojecncgaaGreatDoor
