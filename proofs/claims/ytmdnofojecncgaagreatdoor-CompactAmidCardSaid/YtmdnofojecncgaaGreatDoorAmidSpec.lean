/- The plain law of CompactAmid: two stores, the one compacted at whiles, answer the same. No program stands here. No condition. -/
import Derived.Test.YtmdnofojecncgaaGreatDoorNoMoreSpec
set_option linter.unusedVariables false
set_option linter.unusedSimpArgs false
set_option maxRecDepth 100000
namespace Go.Proofs.YtmdnofojecncgaaGreatDoor
open Go

namespace HTbl
/-- A table but for its addresses. -/
def key (T : HTbl) : Int × Int × List (Int × Int) := (T.most, T.last, T.l.map fun s => (s.is, s.gen))
variable {T U : HTbl}
theorem key_most (h : T.key = U.key) : T.most = U.most := congrArg (·.1) h
theorem key_last (h : T.key = U.key) : T.last = U.last := congrArg (·.2.1) h
theorem key_l (h : T.key = U.key) : T.l.map (fun s => (s.is, s.gen)) = U.l.map fun s => (s.is, s.gen) := congrArg (·.2.2) h
theorem key_len (h : T.key = U.key) : T.l.length = U.l.length := by
  have := congrArg List.length (key_l h)
  rwa [List.length_map, List.length_map] at this
theorem freeIn_key : ∀ {l m : List HSlot}, (l.map fun s => (s.is, s.gen)) = (m.map fun s => (s.is, s.gen)) → freeIn l = freeIn m
  | [], [], _ => rfl
  | [], _ :: _, h => by cases h
  | _ :: _, [], h => by cases h
  | s :: l, q :: m, h => by
    simp only [List.map_cons, List.cons.injEq, Prod.mk.injEq] at h
    unfold freeIn
    rw [h.1.1, freeIn_key h.2]
theorem free_key (h : T.key = U.key) : T.free = U.free := freeIn_key (key_l h)
theorem at_key (h : T.key = U.key) (k : Nat) : (T.l[k]?).map (fun s => (s.is, s.gen)) = (U.l[k]?).map fun s => (s.is, s.gen) := by
  rw [← List.getElem?_map, ← List.getElem?_map, key_l h]
theorem genAt_key (h : T.key = U.key) (k : Nat) : T.genAt k = U.genAt k := by
  have := at_key h k
  unfold genAt
  cases e1 : T.l[k]? with
  | none =>
    cases e2 : U.l[k]? with
    | none => rfl
    | some q => rw [e1, e2] at this; cases this
  | some s =>
    cases e2 : U.l[k]? with
    | none => rw [e1, e2] at this; cases this
    | some q => rw [e1, e2] at this; simp at this; exact this.2
theorem openK_key (h : T.key = U.key) (a b : Int) : (T.openK a).key = (U.openK b).key := by
  unfold openK put key
  rw [free_key h, genAt_key h, key_len h, key_most h, key_last h]
  dsimp only
  congr 2
  split
  · rw [List.map_set, List.map_set, key_l h]
  · rw [List.map_append, List.map_append, key_l h]; rfl
theorem set_key {l : List HSlot} {k : Nat} {s s' : HSlot} (h : l[k]? = some s) (e : (s'.is, s'.gen) = (s.is, s.gen)) : (l.set k s').map (fun s => (s.is, s.gen)) = l.map fun s => (s.is, s.gen) := by
  rw [List.map_set]
  exact StInv.set_self (by rw [List.getElem?_map, h]; exact congrArg some e.symm)
theorem move_key (h a : Int) : (T.move h a).2.key = T.key := by
  unfold move
  split
  · rfl
  · split
    · unfold setAddr
      dsimp only
      cases e : T.l[(place h).toNat]? with
      | none => rfl
      | some s =>
        unfold key
        dsimp only
        rw [set_key (s' := { s with addr := a }) e rfl]
    · rfl
theorem okB_key (e : T.key = U.key) (h : Int) : T.okB h = U.okB h := by
  have := at_key e (place h).toNat
  unfold okB
  cases e1 : T.l[(place h).toNat]? with
  | none =>
    cases e2 : U.l[(place h).toNat]? with
    | none => rfl
    | some q => rw [e1, e2] at this; cases this
  | some s =>
    cases e2 : U.l[(place h).toNat]? with
    | none => rw [e1, e2] at this; cases this
    | some q => rw [e1, e2] at this; simp at this; dsimp only; rw [this.1, this.2]
theorem close_key (e : T.key = U.key) (h : Int) : (T.close h).2.key = (U.close h).2.key := by
  have := at_key e (place h).toNat
  unfold close
  rw [okB_key e]
  split
  · unfold shut
    dsimp only
    cases e1 : T.l[(place h).toNat]? with
    | none =>
      cases e2 : U.l[(place h).toNat]? with
      | none => exact e
      | some q => rw [e1, e2] at this; cases this
    | some s =>
      cases e2 : U.l[(place h).toNat]? with
      | none => rw [e1, e2] at this; cases this
      | some q =>
        rw [e1, e2] at this
        simp at this
        unfold key
        dsimp only
        rw [List.map_set, List.map_set, key_l e, key_most e, key_last e, this.2]
  · exact e
theorem open_name {a hd : Int} {T' : HTbl} (h : T.open' a = (hd, 0, T')) : hd = nameOf T.free (T.genAt T.free + 1) := by
  unfold open' at h
  split at h
  · simp at h
  · split at h
    · simp at h
    · simp only [Prod.mk.injEq] at h; exact h.1.symm
end HTbl

theorem Moved.symm {R R' : List Rc} (h : Moved R R') : Moved R' R := by
  refine ⟨h.1.symm, fun j r hj => ?_⟩
  obtain ⟨q, hq, h1, h2, h3⟩ := h.at_ hj
  refine ⟨q.a, ?_, h3.symm⟩
  rw [hq, h1, h2]

section
variable {S S' : Slb} {T T' : HTbl} {H H' : List Ent} {R R' : List Rc} {q m la : Int}
theorem Slides.key {hh er : Int} {is : Bool} (D : Slides S T H R hh is er S' T' H' R') : T'.key = T.key := by
  cases D with
  | stale => rfl
  | ok j r L tq S2 T2 H2 e le em D W I =>
    have e2 : (T.move r.h (tq : Int)).2 = T' := by rw [em]
    rw [← e2, HTbl.move_key]
theorem Stepped.key {is : Bool} (D : Stepped S T H R is S' T' H' R') : T'.key = T.key := by
  cases D with
  | done => rfl
  | gone pre post x e rest D => exact D.key
theorem Steps.key {n : Nat} (D : Steps S T H R n S' T' H' R') : T'.key = T.key := by
  induction D with
  | zero I => rfl
  | snoc h D ih => exact D.key.trans ih
theorem StK.stepped {is : Bool} (K : StK S T R q m la) (D : Stepped S T H R is S' T' H' R') : StK S' T' R' q m la := by
  cases D with
  | done => exact K
  | gone pre post x e rest D => exact K.slides D
theorem StK.steps {n : Nat} (K : StK S T R q m la) (D : Steps S T H R n S' T' H' R') : StK S' T' R' q m la := by
  induction D with
  | zero I => exact K
  | snoc h D ih => exact (ih).stepped D
end

/-- Two stores of the same records, elsewhere. -/
structure Twin (k : Nat) (S : Slb) (T : HTbl) (H : List Ent) (R : List Rc) (S2 : Slb) (T2 : HTbl) (H2 : List Ent) (R2 : List Rc) : Prop where
  i1 : StInv S T H R
  i2 : StInv S2 T2 H2 R2
  mv : Moved R R2
  ts : T.key = T2.key
  k1 : StK S T R 262144 1000 4294967295
  k2 : StK S2 T2 R2 262144 1000 4294967295
  len : R.length ≤ k
  low : ∀ r ∈ R, r.w.length ≤ 3998

section
variable {S S' S2 S2' : Slb} {T T' T2 T2' : HTbl} {H H' H2 H2' : List Ent} {R R' R2 R2' : List Rc} {k : Nat}
theorem Twin.start : Twin 0 (Slb.empty 262144) ⟨1000, 4294967295, []⟩ [] [] (Slb.empty 262144) ⟨1000, 4294967295, []⟩ [] [] :=
  ⟨StInv.start (by omega) (by omega) (by omega) (by omega) (by omega) (by omega), StInv.start (by omega) (by omega) (by omega) (by omega) (by omega) (by omega), Moved.refl _, rfl, StK.new, StK.new, Nat.le_refl _, fun r hr => by cases hr⟩
theorem Twin.up (W : Twin k S T H R S2 T2 H2 R2) : Twin (k + 1) S T H R S2 T2 H2 R2 := { W with len := Nat.le_succ_of_le W.len }
theorem Twin.low2 (W : Twin k S T H R S2 T2 H2 R2) : ∀ r ∈ R2, r.w.length ≤ 3998 := fun r hr => by
  obtain ⟨j, hj⟩ := List.mem_iff_getElem?.1 hr
  obtain ⟨q, hq, _, h2, _⟩ := W.mv.at_ hj
  rw [h2]
  exact W.low q (List.mem_of_getElem? hq)
theorem Twin.ran {K n : Nat} {d : Bool} (W : Twin k S T H R S2 T2 H2 R2) (A : Ran S T H R K n d S' T' H' R') : Twin k S' T' H' R' S2 T2 H2 R2 := by
  have hm := A.steps.moved
  refine ⟨A.steps.inv, W.i2, hm.symm.trans W.mv, A.steps.key.trans W.ts, W.k1.steps A.steps, W.k2, by rw [hm.1]; exact W.len, fun r hr => ?_⟩
  obtain ⟨j, hj⟩ := List.mem_iff_getElem?.1 hr
  obtain ⟨q, hq, _, h2, _⟩ := hm.at_ hj
  rw [h2]
  exact W.low q (List.mem_of_getElem? hq)

theorem made_sure {n hd er : Int} (I : StInv S T H R) (K : StK S T R 262144 1000 4294967295) (hk : R.length < 60) (low : ∀ r ∈ R, r.w.length ≤ 3998) (h0 : 0 ≤ n) (h1 : n ≤ 3998) (M : Made S T H R n hd er S' T' H' R') : er = 0 := by
  have hlive : (liveR R).length ≤ R.length := List.length_filter_le _ _
  have hp := pgR_le (R := R) (k := 63) (by omega) (fun r hr => by have := low r hr; omega)
  have hN : T.NoRet := HTbl.Gens.noret I.tok K.gens (by rw [K.last]; omega)
  have hpo : Slb.pagesOf (n + 2) ≤ 63 := by unfold Slb.pagesOf; split <;> omega
  exact I.made_ok hN h0 h1 (by rw [K.most]; omega) (by rw [K.quo]; omega) M

theorem Twin.made {n hd er hd2 er2 : Int} (W : Twin k S T H R S2 T2 H2 R2) (hk : k < 60) (M : Made S T H R n hd er S' T' H' R') (M2 : Made S2 T2 H2 R2 n hd2 er2 S2' T2' H2' R2') : hd2 = hd ∧ er2 = er ∧ Twin (k + 1) S' T' H' R' S2' T2' H2' R2' := by
  have K1 := W.k1.made M
  have K2 := W.k2.made M2
  have I1 := M.inv
  have I2 := M2.inv
  by_cases hn : n < 0 ∨ 3998 < n
  · cases M with
    | arg => cases M2 with
      | arg => exact ⟨rfl, rfl, W.up⟩
      | _ => omega
    | _ => omega
  · have e1 := made_sure W.i1 W.k1 (by have := W.len; omega) W.low (by omega) (by omega) M
    have e2 := made_sure W.i2 W.k2 (by have := W.len; have := W.mv.1; omega) W.low2 (by omega) (by omega) M2
    subst e1; subst e2
    cases M with
    | ok h0 hl a S1 H1 e ha A W1 hf hd S3 S4 ho d0 d1 w1 w2 hpg hq new I =>
      cases M2 with
      | ok h0 hl b S5 H5 e ha A W2 hf hd2 S6 S7 ho2 d0 d1 w1 w2 hpg hq new I =>
        have hname : hd2 = hd := by
          rw [HTbl.open_name ho, HTbl.open_name ho2, HTbl.free_key W.ts, HTbl.genAt_key W.ts]
        subst hname
        refine ⟨rfl, rfl, I1, I2, ⟨?_, fun j r hj => ?_⟩, HTbl.openK_key W.ts _ _, K1, K2, ?_, fun r hr => ?_⟩
        · rw [List.length_append, List.length_append, W.mv.1]; rfl
        · by_cases hjl : j < R.length
          · rw [List.getElem?_append_left hjl] at hj
            rw [List.getElem?_append_left (by rw [W.mv.1]; exact hjl)]
            exact W.mv.2 j r hj
          · have hj' : j = R.length := by
              have := (List.getElem?_eq_some_iff.1 hj).1
              rw [List.length_append] at this
              simp at this
              omega
            subst hj'
            rw [List.getElem?_append_right (Nat.le_refl _), Nat.sub_self] at hj
            have hj := Option.some.inj hj
            subst hj
            refine ⟨(b : Int), ?_, ⟨fun _ => Int.natCast_nonneg a, fun _ => Int.natCast_nonneg b⟩⟩
            rw [← W.mv.1, List.getElem?_append_right (Nat.le_refl _), Nat.sub_self]
            rfl
        · rw [List.length_append]; have := W.len; simp; omega
        · rcases List.mem_append.1 hr with h | h
          · exact W.low r h
          · rw [List.mem_singleton.1 h]
            show (List.replicate n.toNat (0 : Int)).length ≤ 3998
            rw [List.length_replicate]; omega

theorem Moved.recT {hh : Int} {j : Nat} {r : Rc} (h : Moved R R2) (L : Rec R hh j r) : ∃ a, Rec R2 hh j { r with a := a } := by
  obtain ⟨a, h1, h2⟩ := h.2 j r L.hj
  exact ⟨a, h1, h2.2 L.h0, L.he⟩
theorem Moved.set (h : Moved R R2) {j : Nat} {r r' : Rc} {a : Int} (e : r'.h = r.h ∧ True) (ha : 0 ≤ a ↔ 0 ≤ r'.a) : Moved (R.set j r') (R2.set j { r' with a := a }) := by
  refine ⟨by rw [List.length_set, List.length_set, h.1], fun i q hi => ?_⟩
  rw [List.getElem?_set] at hi ⊢
  by_cases c : j = i
  · subst c
    rw [if_pos rfl] at hi ⊢
    rw [h.1]
    split at hi
    · have hi := Option.some.inj hi
      subst hi
      rename_i hl
      rw [if_pos hl]
      exact ⟨a, rfl, ha⟩
    · cases hi
  · rw [if_neg c] at hi ⊢
    exact h.2 i q hi
theorem mem_setR {j : Nat} {r' q : Rc} (hq : q ∈ R.set j r') : q = r' ∨ q ∈ R := (List.mem_or_eq_of_mem_set hq).symm

theorem Twin.drops {hh er er2 : Int} (W : Twin k S T H R S2 T2 H2 R2) (D : Drops S T H R hh er S' T' H' R') (D2 : Drops S2 T2 H2 R2 hh er2 S2' T2' H2' R2') : er2 = er ∧ Twin k S' T' H' R' S2' T2' H2' R2' := by
  have K1 := W.k1.drops D
  have K2 := W.k2.drops D2
  have I1 := D.inv
  have I2 := D2.inv
  cases D with
  | stale e =>
    cases D2 with
    | stale => exact ⟨rfl, W⟩
    | ok j r L => obtain ⟨a, L'⟩ := W.mv.symm.recT L; exact absurd e (Rec.not_stale W.i1 L')
  | ok j r L S3 T3 H3 e hq ec F I =>
    obtain ⟨a, L'⟩ := W.mv.recT L
    cases D2 with
    | stale e => exact absurd e (Rec.not_stale W.i2 L')
    | ok j2 r2 L2 S4 T4 H4 e' hq' ec' F' I' =>
      obtain ⟨rfl, rfl⟩ := rec_eq W.i2 L' L2
      refine ⟨rfl, I1, I2, ?_, ?_, K1, K2, by rw [List.length_set]; exact W.len, fun q hq => ?_⟩
      · exact W.mv.set (r := r) (r' := { r with a := -1 }) (a := -1) ⟨rfl, trivial⟩ Iff.rfl
      · have e1 : (T.close r.h).2 = T' := by rw [ec]
        have e2 : (T2.close r.h).2 = T2' := by dsimp only at ec'; rw [ec']
        rw [← e1, ← e2]
        exact HTbl.close_key W.ts _
      · rcases mem_setR hq with rfl | h
        · exact W.low r (List.mem_of_getElem? L.hj)
        · exact W.low q h
theorem Twin.puts {hh kk v er er2 : Int} (W : Twin k S T H R S2 T2 H2 R2) (D : Puts S T H R hh kk v er S' R') (D2 : Puts S2 T2 H2 R2 hh kk v er2 S2' R2') : er2 = er ∧ Twin k S' T H R' S2' T2 H2 R2' := by
  have K1 := W.k1.puts D
  have K2 := W.k2.puts D2
  have I1 := D.inv
  have I2 := D2.inv
  cases D with
  | stale e =>
    cases D2 with
    | stale => exact ⟨rfl, W⟩
    | arg j r L => obtain ⟨a, L'⟩ := W.mv.symm.recT L; exact absurd e (Rec.not_stale W.i1 L')
    | ok j r L => obtain ⟨a, L'⟩ := W.mv.symm.recT L; exact absurd e (Rec.not_stale W.i1 L')
  | arg j r L hk I =>
    obtain ⟨a, L'⟩ := W.mv.recT L
    cases D2 with
    | stale e => exact absurd e (Rec.not_stale W.i2 L')
    | arg => exact ⟨rfl, W⟩
    | ok j2 r2 L2 i hi hil =>
      obtain ⟨rfl, rfl⟩ := rec_eq W.i2 L' L2
      dsimp only at hil
      omega
  | ok j r L i hi hil S3 e hpg hq I =>
    obtain ⟨a, L'⟩ := W.mv.recT L
    cases D2 with
    | stale e => exact absurd e (Rec.not_stale W.i2 L')
    | arg j2 r2 L2 hk =>
      obtain ⟨rfl, rfl⟩ := rec_eq W.i2 L' L2
      dsimp only at hk
      omega
    | ok j2 r2 L2 i2 hi2 hil2 S4 e' hpg' hq' I' =>
      obtain ⟨rfl, rfl⟩ := rec_eq W.i2 L' L2
      obtain rfl : i = i2 := by omega
      refine ⟨rfl, I1, I2, ?_, W.ts, K1, K2, by rw [List.length_set]; exact W.len, fun q hq => ?_⟩
      · exact W.mv.set (r := r) (r' := { r with w := r.w.set i v }) (a := a) ⟨rfl, trivial⟩ ⟨fun _ => L.h0, fun _ => L'.h0⟩
      · rcases mem_setR hq with rfl | h
        · show (r.w.set i v).length ≤ 3998
          rw [List.length_set]; exact W.low r (List.mem_of_getElem? L.hj)
        · exact W.low q h
theorem Twin.pages (W : Twin k S T H R S2 T2 H2 R2) : S.pg.length ≤ 63 * R.length := by
  have hlive : (liveR R).length ≤ R.length := List.length_filter_le _ _
  have hp := pgR_le (R := R) (k := 63) (by omega) (fun r hr => by have := W.low r hr; omega)
  have := W.i1.pages_le
  omega
end

/-- What is told of a record: its length, the error, its words. -/
inductive Told (T : HTbl) (R : List Rc) (hh : Int) : List Int → Prop
  | stale (e : T.at' hh = (0, 7)) : Told T R hh [0, 7]
  | ok (j : Nat) (r : Rc) (L : Rec R hh j r) : Told T R hh ((r.w.length : Int) :: 0 :: r.w)
theorem told_ex {S : Slb} {T : HTbl} {H : List Ent} {R : List Rc} (I : StInv S T H R) {hh : Int} (N : Named T R hh) : ∃ l, Told T R hh l := by
  rcases I.see N with ⟨j, r, L⟩ | e
  · exact ⟨_, .ok j r L⟩
  · exact ⟨_, .stale e⟩
theorem Told.same {S S2 : Slb} {T T2 : HTbl} {H H2 : List Ent} {R R2 : List Rc} (I : StInv S T H R) (I2 : StInv S2 T2 H2 R2) (hm : Moved R R2) {hh : Int} {l m : List Int} (A : Told T R hh l) (B : Told T2 R2 hh m) : l = m := by
  cases A with
  | stale e =>
    cases B with
    | stale => rfl
    | ok j r L => obtain ⟨a, L'⟩ := hm.symm.recT L; exact absurd e (Rec.not_stale I L')
  | ok j r L =>
    obtain ⟨a, L'⟩ := hm.recT L
    cases B with
    | stale e => exact absurd e (Rec.not_stale I2 L')
    | ok j2 r2 L2 => obtain ⟨rfl, rfl⟩ := rec_eq I2 L' L2; rfl
end Go.Proofs.YtmdnofojecncgaaGreatDoor
