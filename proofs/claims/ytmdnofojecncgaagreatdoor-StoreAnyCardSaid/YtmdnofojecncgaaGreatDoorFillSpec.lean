/- The plain law of what the laws of package loftlaw07 do with a store ahead of the compactor: a script's calls, one by one. No program stands here. No condition. -/
import Derived.Test.YtmdnofojecncgaaGreatDoorCompactA
set_option linter.unusedVariables false
set_option linter.unusedSimpArgs false
set_option maxRecDepth 100000
namespace Go.Proofs.YtmdnofojecncgaaGreatDoor
open Go

/-- A store's state; how many records there were ahead. -/
structure FSt where
  S : Slb
  T : HTbl
  H : List Ent
  R : List Rc
  n0 : Nat
namespace FSt
def Inv (s : FSt) : Prop := StInv s.S s.T s.H s.R ∧ s.n0 ≤ s.R.length
/-- The handles that were told since. -/
def hs (s : FSt) : List Int := (s.R.map (·.h)).drop s.n0
end FSt
/-- The n-th of some, counted round. -/
def nthI (L : List Int) (n : Int) : Int := if L.length = 0 then 0 else L.getD ((if n.tmod L.length < 0 then n.tmod L.length + L.length else n.tmod L.length).toNat) 0
theorem nthI_idx {L : Nat} (h0 : L ≠ 0) (n : Int) : ∃ k : Nat, k < L ∧ ((k : Int) = if n.tmod L < 0 then n.tmod L + L else n.tmod L) := by
  have h1 := Int.tmod_lt_of_pos n (show (0 : Int) < (L : Int) by omega)
  have h2 := Int.tmod_lt_of_pos (-n) (show (0 : Int) < (L : Int) by omega)
  rw [Int.neg_tmod] at h2
  split
  · exact ⟨(n.tmod L + L).toNat, by omega, by omega⟩
  · exact ⟨(n.tmod L).toNat, by omega, by omega⟩
theorem nthI_mem {L : List Int} (h0 : L.length ≠ 0) (n : Int) : ∃ k : Nat, L[k]? = some (nthI L n) := by
  obtain ⟨k, hk, e⟩ := nthI_idx h0 n
  refine ⟨k, ?_⟩
  unfold nthI
  rw [if_neg h0, ← e, Int.toNat_natCast, List.getD_eq_getElem?_getD, List.getElem?_eq_getElem hk]
  rfl
theorem FSt.named {s : FSt} (n : Int) : Named s.T s.R (nthI s.hs n) := by
  by_cases h0 : s.hs.length = 0
  · unfold nthI
    rw [if_pos h0]
    exact StInv.named0 _ _
  · obtain ⟨k, hk⟩ := nthI_mem h0 n
    unfold FSt.hs at hk
    rw [List.getElem?_drop, List.getElem?_map] at hk
    obtain ⟨r, hr, he⟩ := Option.map_eq_some_iff.1 hk
    exact .inl ⟨_, r, hr, he⟩
theorem FSt.Inv.nth_rng {s : FSt} (I : s.Inv) (n : Int) : 0 ≤ nthI s.hs n ∧ nthI s.hs n < 18446744073709551616 := by
  by_cases h0 : s.hs.length = 0
  · unfold nthI
    rw [if_pos h0]
    omega
  · obtain ⟨k, hk⟩ := nthI_mem h0 n
    unfold FSt.hs at hk
    rw [List.getElem?_drop, List.getElem?_map] at hk
    obtain ⟨r, hr, he⟩ := Option.map_eq_some_iff.1 hk
    have := StInv.rng I.1 hr
    unfold FSt.hs
    rw [← he]
    exact ⟨this.1, this.2.1⟩

theorem list_set_id {α : Type} {l : List α} {i : Nat} {a : α} (h : l[i]? = some a) : l.set i a = l := by
  apply List.ext_getElem?
  intro k
  rw [List.getElem?_set]
  have := (List.getElem?_eq_some_iff.1 h).1
  by_cases e : i = k
  · subst e; rw [if_pos rfl, if_pos this, h]
  · rw [if_neg e]
/-- A call of a script. -/
inductive FStep (r : List Int) (s : FSt) : FSt → Prop
  | make {hd er : Int} {S' : Slb} {T' : HTbl} {H' : List Ent} {R' : List Rc} (e : r.getD 0 0 = 1) (M : Made s.S s.T s.H s.R (r.getD 2 0) hd er S' T' H' R') : FStep r s ⟨S', T', H', R', s.n0⟩
  | drop {er : Int} {S' : Slb} {T' : HTbl} {H' : List Ent} {R' : List Rc} (e : r.getD 0 0 = 2) (D : Drops s.S s.T s.H s.R (nthI s.hs (r.getD 1 0)) er S' T' H' R') : FStep r s ⟨S', T', H', R', s.n0⟩
  | put {er : Int} {S' : Slb} {R' : List Rc} (e : r.getD 0 0 = 3) (P : Puts s.S s.T s.H s.R (nthI s.hs (r.getD 1 0)) (r.getD 2 0) (r.getD 3 0) er S' R') : FStep r s ⟨S', s.T, s.H, R', s.n0⟩
  | other (e1 : r.getD 0 0 ≠ 1) (e2 : r.getD 0 0 ≠ 2) (e3 : r.getD 0 0 ≠ 3) : FStep r s s
theorem FStep.isMake {r : List Int} {s s' : FSt} (F : FStep r s s') (h : r.getD 0 0 = 1) : ∃ hd er, Made s.S s.T s.H s.R (r.getD 2 0) hd er s'.S s'.T s'.H s'.R := by
  cases F with
  | make e M => exact ⟨_, _, M⟩
  | drop e => rw [h] at e; cases e
  | put e => rw [h] at e; cases e
  | other e => exact absurd h e
theorem FStep.isDrop {r : List Int} {s s' : FSt} (F : FStep r s s') (h : r.getD 0 0 = 2) : ∃ er, Drops s.S s.T s.H s.R (nthI s.hs (r.getD 1 0)) er s'.S s'.T s'.H s'.R := by
  cases F with
  | make e => rw [h] at e; cases e
  | drop e D => exact ⟨_, D⟩
  | put e => rw [h] at e; cases e
  | other _ e => exact absurd h e
theorem FStep.isPut {r : List Int} {s s' : FSt} (F : FStep r s s') (h : r.getD 0 0 = 3) : (∃ er, Puts s.S s.T s.H s.R (nthI s.hs (r.getD 1 0)) (r.getD 2 0) (r.getD 3 0) er s'.S s'.R) ∧ s'.T = s.T := by
  cases F with
  | make e => rw [h] at e; cases e
  | drop e => rw [h] at e; cases e
  | put e P => exact ⟨⟨_, P⟩, rfl⟩
  | other _ _ e => exact absurd h e
theorem FStep.isNone {r : List Int} {s s' : FSt} (F : FStep r s s') (h1 : r.getD 0 0 ≠ 1) (h2 : r.getD 0 0 ≠ 2) (h3 : r.getD 0 0 ≠ 3) : s' = s := by
  cases F with
  | make e => exact absurd e h1
  | drop e => exact absurd e h2
  | put e => exact absurd e h3
  | other => rfl
theorem FStep.ex {r : List Int} {s : FSt} (I : s.Inv) (hx : 0 ≤ r.getD 3 0 ∧ r.getD 3 0 < 18446744073709551616) : ∃ s', FStep r s s' := by
  by_cases e1 : r.getD 0 0 = 1
  · obtain ⟨hd, er, S', T', H', R', M⟩ := StInv.made I.1 (r.getD 2 0)
    exact ⟨_, .make e1 M⟩
  · by_cases e2 : r.getD 0 0 = 2
    · obtain ⟨er, S', T', H', R', D⟩ := StInv.drops I.1 (s.named (r.getD 1 0))
      exact ⟨_, .drop e2 D⟩
    · by_cases e3 : r.getD 0 0 = 3
      · obtain ⟨er, S', R', P⟩ := StInv.puts I.1 (s.named (r.getD 1 0)) (r.getD 2 0) hx.1 hx.2
        exact ⟨_, .put e3 P⟩
      · exact ⟨s, .other e1 e2 e3⟩
theorem Drops.hs {S S' : Slb} {T T' : HTbl} {H H' : List Ent} {R R' : List Rc} {hh er : Int} (D : Drops S T H R hh er S' T' H' R') : R'.map (·.h) = R.map (·.h) := by
  cases D with
  | stale => rfl
  | ok j r L => rw [List.map_set]; exact list_set_id (by rw [List.getElem?_map, L.hj]; rfl)
theorem Puts.hs {S S' : Slb} {T : HTbl} {H : List Ent} {R R' : List Rc} {hh k v er : Int} (P : Puts S T H R hh k v er S' R') : R'.map (·.h) = R.map (·.h) := by
  cases P with
  | stale => rfl
  | arg => rfl
  | ok j r L => rw [List.map_set]; exact list_set_id (by rw [List.getElem?_map, L.hj]; rfl)
theorem Made.hs {S S' : Slb} {T T' : HTbl} {H H' : List Ent} {R R' : List Rc} {n hd er : Int} (M : Made S T H R n hd er S' T' H' R') : R'.map (·.h) = R.map (·.h) ++ (if er = 0 then [hd] else []) := by
  by_cases he : er = 0
  · obtain ⟨_, _, _, a, rfl⟩ := M.good he
    rw [if_pos he, List.map_append]
    rfl
  · obtain ⟨_, rfl, _⟩ := M.err he
    rw [if_neg he, List.append_nil]
theorem Made.len {S S' : Slb} {T T' : HTbl} {H H' : List Ent} {R R' : List Rc} {n hd er : Int} (M : Made S T H R n hd er S' T' H' R') : R.length ≤ R'.length ∧ R'.length ≤ R.length + 1 := by
  have := congrArg List.length M.hs
  rw [List.length_append, List.length_map, List.length_map] at this
  rw [this]
  split <;> simp
theorem FStep.n0 {r : List Int} {s s' : FSt} (F : FStep r s s') : s'.n0 = s.n0 := by cases F <;> rfl
theorem FStep.rlen {r : List Int} {s s' : FSt} (F : FStep r s s') : s.R.length ≤ s'.R.length ∧ s'.R.length ≤ s.R.length + 1 := by
  cases F with
  | make e M => exact M.len
  | drop e D => have := congrArg List.length D.hs; rw [List.length_map, List.length_map] at this; dsimp only; omega
  | put e P => have := congrArg List.length P.hs; rw [List.length_map, List.length_map] at this; dsimp only; omega
  | other => exact ⟨Nat.le_refl _, by omega⟩
theorem FStep.inv {r : List Int} {s s' : FSt} (F : FStep r s s') (I : s.Inv) : s'.Inv := by
  have h1 := F.n0
  have h2 := F.rlen
  have h3 := I.2
  refine ⟨?_, by omega⟩
  cases F with
  | make e M => exact M.inv
  | drop e D => exact D.inv
  | put e P => exact P.inv
  | other => exact I.1
theorem FStep.hsMake {r : List Int} {s s' : FSt} (F : FStep r s s') (I : s.Inv) {n hd er : Int} (M : Made s.S s.T s.H s.R n hd er s'.S s'.T s'.H s'.R) : s'.hs = s.hs ++ (if er = 0 then [hd] else []) := by
  unfold FSt.hs
  rw [F.n0, M.hs, List.drop_append_of_le_length (by rw [List.length_map]; exact I.2)]
theorem FStep.hsDrop {r : List Int} {s s' : FSt} (F : FStep r s s') {hh er : Int} (D : Drops s.S s.T s.H s.R hh er s'.S s'.T s'.H s'.R) : s'.hs = s.hs := by
  unfold FSt.hs
  rw [F.n0, D.hs]
theorem FStep.hsPut {r : List Int} {s s' : FSt} (F : FStep r s s') {hh k v er : Int} (P : Puts s.S s.T s.H s.R hh k v er s'.S s'.R) : s'.hs = s.hs := by
  unfold FSt.hs
  rw [F.n0, P.hs]
theorem FSt.Inv.hlen {s : FSt} (I : s.Inv) : s.hs.length + s.n0 = s.R.length := by
  have := I.2
  unfold FSt.hs
  rw [List.length_drop, List.length_map]
  omega
theorem FStep.len {r : List Int} {s s' : FSt} (F : FStep r s s') (I : s.Inv) : s'.hs.length ≤ s.hs.length + 1 := by
  have h1 := F.n0
  have h2 := F.rlen
  have h3 := I.hlen
  have h4 := (F.inv I).hlen
  omega

open Classical in
/-- What a call brings. -/
noncomputable def fnext (s : FSt) (r : List Int) : FSt := if h : ∃ s', FStep r s s' then Classical.choose h else s
theorem fnext_ok {s : FSt} {r : List Int} (I : s.Inv) (hx : 0 ≤ r.getD 3 0 ∧ r.getD 3 0 < 18446744073709551616) : FStep r s (fnext s r) := by
  have h := FStep.ex I hx
  unfold fnext
  rw [dif_pos h]
  exact Classical.choose_spec h
/-- What a script brings. -/
noncomputable def frun (s : FSt) (z : List (List Int)) (k : Nat) : FSt := (z.take k).foldl fnext s
theorem frun_zero (s : FSt) (z : List (List Int)) : frun s z 0 = s := rfl
theorem frun_succ {s : FSt} {z : List (List Int)} {k : Nat} {r : List Int} (h : z[k]? = some r) : frun s z (k + 1) = fnext (frun s z k) r := by
  unfold frun
  rw [List.take_add_one, h, List.foldl_append]
  rfl
def FWords (z : List (List Int)) : Prop := ∀ (k : Nat) r, z[k]? = some r → 0 ≤ r.getD 3 0 ∧ r.getD 3 0 < 18446744073709551616
theorem frun_inv {s : FSt} {z : List (List Int)} (I : s.Inv) (hz : FWords z) : ∀ k, k ≤ z.length → (frun s z k).Inv
  | 0, _ => I
  | k + 1, hk => by
    have hr := List.getElem?_eq_getElem (show k < z.length by omega)
    rw [frun_succ hr]
    exact (fnext_ok (frun_inv I hz k (by omega)) (hz k _ hr)).inv (frun_inv I hz k (by omega))
theorem frun_step {s : FSt} {z : List (List Int)} (I : s.Inv) (hz : FWords z) {k : Nat} {r : List Int} (h : z[k]? = some r) : FStep r (frun s z k) (frun s z (k + 1)) := by
  have hk := (List.getElem?_eq_some_iff.1 h).1
  rw [frun_succ h]
  exact fnext_ok (frun_inv I hz k (by omega)) (hz k _ h)
theorem frun_len {s : FSt} {z : List (List Int)} (I : s.Inv) (hz : FWords z) (h0 : s.hs = []) : ∀ k, k ≤ z.length → (frun s z k).hs.length ≤ k
  | 0, _ => by rw [frun_zero, h0]; exact Nat.le_refl _
  | k + 1, hk => by
    have hr := List.getElem?_eq_getElem (show k < z.length by omega)
    have h1 := (frun_step I hz hr).len (frun_inv I hz k (by omega))
    have h2 := frun_len I hz h0 k (by omega)
    omega

theorem frun_rlen {s : FSt} {z : List (List Int)} (I : s.Inv) (hz : FWords z) : ∀ k, k ≤ z.length → (frun s z k).R.length ≤ s.R.length + k
  | 0, _ => Nat.le_refl _
  | k + 1, hk => by
    have hr := List.getElem?_eq_getElem (show k < z.length by omega)
    have h1 := (frun_step I hz hr).rlen
    have h2 := frun_rlen I hz k (by omega)
    omega

/-! A step's outcome is one. -/
section
variable {S S' S'' S1 S2 S3 : Slb} {T T' T'' T1 T2 T3 : HTbl} {H H' Hb H'' H1 H2 H3 : List Ent} {R R' R'' R1 R2 R3 : List Rc}
theorem rec_eq (I : StInv S T H R) {hh : Int} {j i : Nat} {r q : Rc} (L : Rec R hh j r) (K : Rec R hh i q) : j = i ∧ r = q := by
  have e : j = i := I.once.nd j i hh (by rw [List.getElem?_map, L.hj]; exact congrArg some L.he) (by rw [List.getElem?_map, K.hj]; exact congrArg some K.he)
  subst e
  have := L.hj
  rw [K.hj] at this
  cases this
  exact ⟨rfl, rfl⟩
theorem Rec.not_stale (I : StInv S T H R) {hh : Int} {j : Nat} {r : Rc} (L : Rec R hh j r) : T.at' hh ≠ (0, 7) := fun e => by
  have := I.at_eq L.hj
  rw [if_pos L.h0, L.he, e] at this
  have := congrArg Prod.snd this
  simp at this
theorem Slides.det (I : StInv S T H R) {hh : Int} {is is2 : Bool} {er er2 : Int} (D : Slides S T H R hh is er S' T' H' R') (K : Slides S T Hb R hh is2 er2 S'' T'' H'' R'') : is = is2 ∧ S' = S'' ∧ T' = T'' ∧ R' = R'' := by
  cases D with
  | stale e =>
    cases K with
    | stale => exact ⟨rfl, rfl, rfl, rfl⟩
    | ok j r L => exact absurd e (Rec.not_stale I L)
  | ok j r L tq S2 T2 H2 e le em =>
    cases K with
    | stale e => exact absurd e (Rec.not_stale I L)
    | ok j2 r2 L2 tq2 S3 T3 H3 e2 le2 em2 =>
      obtain ⟨rfl, rfl⟩ := rec_eq I L L2
      rw [e] at e2
      simp only [Prod.mk.injEq, true_and] at e2
      obtain ⟨h1, rfl⟩ := e2
      obtain rfl : tq = tq2 := by omega
      rw [em] at em2
      simp only [Prod.mk.injEq, true_and] at em2
      exact ⟨rfl, rfl, em2, rfl⟩
theorem Slides.goes (I : StInv S T H R) {hh er : Int} (D : Slides S T H R hh true er S' T' H' R') : ¬ Rests S R hh := by
  rintro ⟨j, r, L, e⟩
  generalize hb : true = b at D
  cases D with
  | stale => cases hb
  | ok j2 r2 L2 tq S2 T2 H2 e2 =>
    obtain ⟨rfl, rfl⟩ := rec_eq I L L2
    rw [e2] at e
    dsimp only at e
    rw [e] at hb
    simp at hb
theorem first_eq {α : Type} {P : α → Prop} : ∀ {p q : List α} {x y : α} {s t : List α}, p ++ x :: s = q ++ y :: t → (∀ z ∈ p, P z) → (∀ z ∈ q, P z) → ¬ P x → ¬ P y → x = y
  | [], [], _, _, _, _, e, _, _, _, _ => by simp at e; exact e.1
  | [], b :: q, x, y, s, t, e, _, hq, hx, _ => by
    simp only [List.nil_append, List.cons_append, List.cons.injEq] at e
    exact absurd (hq b (by simp)) (e.1 ▸ hx)
  | a :: p, [], x, y, s, t, e, hp, _, _, hy => by
    simp only [List.nil_append, List.cons_append, List.cons.injEq] at e
    exact absurd (hp a (by simp)) (e.1.symm ▸ hy)
  | a :: p, b :: q, x, y, s, t, e, hp, hq, hx, hy => by
    simp only [List.cons_append, List.cons.injEq] at e
    exact first_eq e.2 (fun z hz => hp z (List.mem_cons_of_mem _ hz)) (fun z hz => hq z (List.mem_cons_of_mem _ hz)) hx hy
theorem Stepped.det (I : StInv S T H R) {is is2 : Bool} (D : Stepped S T H R is S' T' H' R') (K : Stepped S T Hb R is2 S'' T'' H'' R'') (Ib : StInv S T Hb R) : is = is2 ∧ S' = S'' ∧ T' = T'' ∧ R' = R'' := by
  cases D with
  | done all _ =>
    cases K with
    | done => exact ⟨rfl, rfl, rfl, rfl⟩
    | gone pre post x e rest K => exact absurd (all x (by rw [e]; simp)) (K.goes Ib)
  | gone pre post x e rest D =>
    cases K with
    | done all _ => exact absurd (all x (by rw [e]; simp)) (D.goes I)
    | gone pre2 post2 x2 e2 rest2 K =>
      rw [e] at e2
      obtain rfl := first_eq e2 rest rest2 (D.goes I) (K.goes Ib)
      exact ⟨rfl, (D.det I K).2⟩
theorem Steps.zeroE (h : Steps S T H R 0 S' T' H' R') : S' = S ∧ T' = T ∧ H' = H ∧ R' = R := by cases h; exact ⟨rfl, rfl, rfl, rfl⟩
theorem Steps.det (I : StInv S T H R) : ∀ {n : Nat} {S' T' H' R' S'' T'' H'' R''}, Steps S T H R n S' T' H' R' → Steps S T H R n S'' T'' H'' R'' → S' = S'' ∧ T' = T'' ∧ R' = R''
  | 0, _, _, _, _, _, _, _, _, h, k => by
    obtain ⟨rfl, rfl, rfl, rfl⟩ := h.zeroE
    obtain ⟨rfl, rfl, rfl, rfl⟩ := k.zeroE
    exact ⟨rfl, rfl, rfl⟩
  | n + 1, _, _, _, _, _, _, _, _, h, k => by
    cases h with
    | snoc h D =>
      cases k with
      | snoc k K =>
        obtain ⟨rfl, rfl, rfl⟩ := Steps.det I h k
        exact (D.det h.inv K k.inv).2
theorem Steps.trans {n m : Nat} (h : Steps S T H R n S1 T1 H1 R1) (k : Steps S1 T1 H1 R1 m S2 T2 H2 R2) : Steps S T H R (n + m) S2 T2 H2 R2 := by
  induction k with
  | zero => exact h
  | snoc k D ih => exact .snoc ih D
theorem Steps.pre {n m : Nat} (h : Steps S T H R m S2 T2 H2 R2) (hn : n < m) : ∃ S1 T1 H1 R1 S3 T3 H3 R3, Steps S T H R n S1 T1 H1 R1 ∧ Stepped S1 T1 H1 R1 true S3 T3 H3 R3 := by
  induction h with
  | zero => omega
  | @snoc m S1 S' T1 T' H1 H' R1 R' h D ih =>
    by_cases e : n = m
    · subst e
      exact ⟨_, _, _, _, _, _, _, _, h, D⟩
    · exact ih (by omega)
theorem Steps.stop {n m : Nat} (I : StInv S T H R) (h : Steps S T H R n S1 T1 H1 R1) (D : Stepped S1 T1 H1 R1 false S' T' H' R') (k : Steps S T H R m S2 T2 H2 R2) : m ≤ n := by
  refine Nat.le_of_not_lt fun hlt => ?_
  obtain ⟨_, _, _, _, _, _, _, _, k1, K⟩ := k.pre hlt
  obtain ⟨rfl, rfl, rfl⟩ := h.det I k1
  have := (D.det h.inv K k1.inv).1
  cases this
theorem Ran.le {k n : Nat} {d : Bool} (A : Ran S T H R k n d S1 T1 H1 R1) : n ≤ k := by
  cases A with
  | out => exact Nat.le_refl _
  | done h => omega
/-- Run of parts is as Run of the whole. -/
theorem Ran.parts (I : StInv S T H R) {one two a b n : Nat} {d1 d2 d3 : Bool} (A : Ran S T H R one a d1 S1 T1 H1 R1) (B : Ran S1 T1 H1 R1 two b d2 S2 T2 H2 R2) (C : Ran S T H R (one + two) n d3 S3 T3 H3 R3) :
    a + b = n ∧ S2 = S3 ∧ n ≤ one + two ∧ (n < one + two → (d2 = true ∨ two = 0) ∧ d3 = true) := by
  have hAB := A.steps.trans B.steps
  have hA := A.le
  have key : a + b = n → S2 = S3 := fun e => by subst e; exact (hAB.det I C.steps).1
  cases C with
  | out hc =>
    have hn : a + b = one + two := by
      cases B with
      | out hb =>
        cases A with
        | out ha => rfl
        | done hlt ha D => have := ha.stop I D hc; omega
      | done hlt hb D => have := hAB.stop I D hc; omega
    exact ⟨hn, key hn, Nat.le_refl _, fun h => by omega⟩
  | done hlt hc D3 =>
    have hle : a + b ≤ n := hc.stop I D3 hAB
    cases B with
    | out hb =>
      cases A with
      | out ha => omega
      | done hla ha D =>
        have h1 := ha.stop I D hc
        have hn : a + two = n := by omega
        exact ⟨hn, key hn, by omega, fun _ => ⟨.inr (by omega), rfl⟩⟩
    | done hlb hb D =>
      have h1 := hAB.stop I D hc
      have hn : a + b = n := by omega
      exact ⟨hn, key hn, by omega, fun _ => ⟨.inl rfl, rfl⟩⟩
end
end Go.Proofs.YtmdnofojecncgaaGreatDoor
