/- The plain law of package store: the pages of what is made; the first record of all. No program stands here. No condition. -/
import Derived.Test.YtpcomekikeoliaaGreatDoorStoreCount
import Derived.Test.YtpcomekikeoliaaGreatDoorStoreBase
set_option linter.unusedVariables false
set_option linter.unusedSimpArgs false
set_option maxRecDepth 100000
namespace Go.Proofs.YtpcomekikeoliaaGreatDoor
open Go

section
variable {S S' : Slb} {T T' : HTbl} {H H' : List Ent} {R R' : List Rc}

theorem Slb.AllocWay.pages {n : Int} {a : Nat} (h1 : 1 ≤ n) (W : Slb.AllocWay S S' H H' n a) :
    (S'.pg.length = S.pg.length ∧ n ≤ 28 ∧ ∃ b p N k, Slb.Open H (clsOf n) b p N k) ∨ (S'.pg.length = S.pg.length + Slb.pagesOf n ∧ (n ≤ 28 → ∀ b p N k, ¬ Slb.Open H (clsOf n) b p N k)) := by
  cases W with
  | slot p N k h o least e pg => exact .inl ⟨by rw [pg], h, _, _, _, _, o⟩
  | page f h none ne e pg fr q ad =>
    refine .inr ⟨?_, fun _ => none⟩
    rw [pg, Slb.more_length (by rw [fr]; exact (Slb.least_spec S.pg 1 (by omega)).2.1)]
    unfold Slb.pagesOf
    rw [if_pos h]
  | large f m h hm ne e pg fr q ad =>
    refine .inr ⟨?_, fun h2 => by omega⟩
    have : 1 ≤ m := by rw [hm]; unfold Slb.pagesOf; split <;> omega
    rw [pg, Slb.more_length (by rw [fr]; exact (Slb.least_spec S.pg m this).2.1), hm]

theorem Made.pages {n hd : Int} (M : Made S T H R n hd 0 S' T' H' R') :
    (S'.pg.length = S.pg.length ∧ n + 2 ≤ 28 ∧ ∃ b p N k, Slb.Open H (clsOf (n + 2)) b p N k) ∨ (S'.pg.length = S.pg.length + Slb.pagesOf (n + 2) ∧ (n + 2 ≤ 28 → ∀ b p N k, ¬ Slb.Open H (clsOf (n + 2)) b p N k)) := by
  generalize he : (0 : Int) = er at M
  cases M with
  | arg => omega
  | quota => omega
  | full => omega
  | ok h0 hl a S1 H1 e ha A W hf hd S2 S3 ho d0 d1 w1 w2 hpg hq new I =>
    rw [hpg]
    exact W.pages (by omega)

theorem StInv.empty_pg (I : StInv S T H R) (h : liveR R = []) : H = [] ∧ S.pg = [] := by
  have hb : blks H = [] := by
    have := I.perm
    rw [h] at this
    exact List.Perm.eq_nil this
  have hH : H = [] := by
    cases H with
    | nil => rfl
    | cons x L =>
      exfalso
      obtain ⟨c, hc⟩ := blkE_some (I.rep.good x (by simp))
      have : c ∈ blks (x :: L) := Slb.mem_blks.2 ⟨x, by simp, hc⟩
      rw [hb] at this
      cases this
  subst hH
  exact ⟨rfl, by rw [I.rep.pg_eq]; rfl⟩

/-- The first record of all. -/
theorem StInv.first {q m la n : Int} (q0 : 0 ≤ q) (q1 : q ≤ 262144) (m1 : 1 ≤ m) (m2 : m ≤ 65536) (l1 : 1 ≤ la) (l2 : la ≤ 4294967295) (h0 : 0 ≤ n) (h1 : n ≤ 3998) (hq : (Slb.pagesOf (n + 2) : Int) * 64 ≤ q) :
    ∃ S1 T1 H1, ∃ a : Nat, Made (Slb.empty q) ⟨m, la, []⟩ [] [] n 4294967297 0 S1 T1 H1 [⟨4294967297, (a : Int), List.replicate n.toNat 0⟩] ∧ S1.pg.length = Slb.pagesOf (n + 2) := by
  have I := StInv.start q0 q1 m1 m2 l1 l2
  obtain ⟨hd, er, S1, T1, H1, R1, M⟩ := I.made n
  have he := I.made_ok HTbl.AllOpen.new.noret h0 h1 (by show (0 : Int) < m; omega) (by show ((0 : Int) + _) * 64 ≤ q; omega) M
  subst he
  have hp := M.pages
  have hd' : hd = 4294967297 ∧ ∃ a : Nat, R1 = [⟨hd, (a : Int), List.replicate n.toNat 0⟩] := by
    have M2 := M
    generalize he : (0 : Int) = er at M2
    cases M2 with
    | arg => omega
    | quota => omega
    | full => omega
    | ok h0 hl a S1 H1 e ha A W hf hd S2 S3 ho d0 d1 w1 w2 hpg hq new I =>
      obtain ⟨_, _, e2, _⟩ := HTbl.open_ok_cases ho
      exact ⟨e2, a, rfl⟩
  obtain ⟨rfl, a, rfl⟩ := hd'
  refine ⟨S1, T1, H1, a, M, ?_⟩
  rcases hp with ⟨_, _, b, p, N, k, o⟩ | ⟨hp, _⟩
  · exact absurd o.ent (by simp)
  · rw [hp]
    show 0 + _ = _
    omega

theorem StInv.putOk (I : StInv S T H R) {j : Nat} {r : Rc} (hj : R[j]? = some r) (h0 : 0 ≤ r.a) {i : Nat} (hi : i < r.w.length) {v : Int} (v0 : 0 ≤ v) (v1 : v < 18446744073709551616) :
    ∃ S', Puts S T H R r.h (i : Int) v 0 S' (R.set j { r with w := r.w.set i v }) := by
  obtain ⟨S', e, hpg, hq, I'⟩ := I.put hj h0 hi v0 v1
  exact ⟨S', .ok j r ⟨hj, h0, rfl⟩ i rfl hi S' e hpg hq I'⟩
theorem StInv.dropOk (I : StInv S T H R) {j : Nat} {r : Rc} (hj : R[j]? = some r) (h0 : 0 ≤ r.a) : ∃ S' T' H', Drops S T H R r.h 0 S' T' H' (R.set j { r with a := -1 }) := by
  obtain ⟨S2, H2, e, hq, ec, F, I2⟩ := I.drop hj h0
  exact ⟨S2, _, H2, .ok j r ⟨hj, h0, rfl⟩ S2 _ H2 e hq ec F I2⟩
theorem StInv.slideOk (I : StInv S T H R) {j : Nat} {r : Rc} (hj : R[j]? = some r) (h0 : 0 ≤ r.a) : ∃ (tq : Nat) (S' : Slb) (T' : HTbl) (H' : List Ent), Slides S T H R r.h ((tq : Int) != r.a) 0 S' T' H' (R.set j { r with a := (tq : Int) }) := by
  obtain ⟨tq, S2, H2, e, le, em, D, W, I2⟩ := I.slide hj h0
  exact ⟨tq, S2, _, H2, .ok j r ⟨hj, h0, rfl⟩ tq S2 _ H2 e le em D W I2⟩
theorem StInv.gone (I : StInv S T H R) {j : Nat} {r : Rc} (hj : R[j]? = some r) (h0 : r.a < 0) : T.at' r.h = (0, 7) := by
  have := I.at_eq hj
  rwa [if_neg (by omega)] at this
theorem getOk {j : Nat} {r : Rc} (hj : R[j]? = some r) (h0 : 0 ≤ r.a) {i : Nat} {x : Int} (hx : r.w[i]? = some x) : Gets T R r.h (i : Int) x 0 := .ok j r ⟨hj, h0, rfl⟩ i rfl x hx
theorem lenOk {j : Nat} {r : Rc} (hj : R[j]? = some r) (h0 : 0 ≤ r.a) : Lens T R r.h (r.w.length : Nat) 0 := .ok j r ⟨hj, h0, rfl⟩
end
end Go.Proofs.YtpcomekikeoliaaGreatDoor
