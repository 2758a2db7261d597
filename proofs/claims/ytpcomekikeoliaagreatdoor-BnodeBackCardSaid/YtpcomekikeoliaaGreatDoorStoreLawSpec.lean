/- Package store: what the laws use of the plain law. No program stands here. No condition. -/
import Derived.Test.YtpcomekikeoliaaGreatDoorStoreFirst
set_option linter.unusedVariables false
set_option linter.unusedSimpArgs false
set_option maxRecDepth 100000
namespace Go.Proofs.YtpcomekikeoliaaGreatDoor
open Go

section
variable {S S' : Slb} {T T' : HTbl} {H H' : List Ent} {R R' : List Rc}

theorem mem_set_le {L : List Rc} {j : Nat} {x : Rc} {k : Nat} (h : ∀ r ∈ L, r.w.length ≤ k) (hx : x.w.length ≤ k) : ∀ r ∈ L.set j x, r.w.length ≤ k := fun r hr => by
  rcases List.mem_or_eq_of_mem_set hr with h1 | rfl
  · exact h r h1
  · exact hx
theorem Drops.live {hh er : Int} (D : Drops S T H R hh er S' T' H' R') :
    ((er = 0 ∧ (liveR R').length + 1 = (liveR R).length) ∨ (er = 7 ∧ R' = R ∧ S' = S ∧ T' = T)) ∧ R'.map (·.h) = R.map (·.h) ∧ R'.length = R.length ∧ (∀ k, (∀ r ∈ R, r.w.length ≤ k) → ∀ r ∈ R', r.w.length ≤ k) := by
  cases D with
  | stale e I => exact ⟨.inr ⟨rfl, rfl, rfl, rfl⟩, rfl, rfl, fun _ h => h⟩
  | ok j r L S2 T2 H2 e hq ec F I =>
    have hjl := (List.getElem?_eq_some_iff.1 L.hj).1
    obtain ⟨s1, _⟩ := StInv.liveR_split L.hj L.h0
    have s2 := StInv.liveR_drop (r' := { r with a := -1 }) hjl (by show ¬ (0 : Int) ≤ -1; omega)
    refine ⟨.inl ⟨rfl, ?_⟩, ?_, List.length_set, fun k h => mem_set_le h (h r (List.mem_of_getElem? L.hj))⟩
    · rw [s1, s2]
      simp only [List.length_append, List.length_cons]
      omega
    · rw [List.map_set]
      exact StInv.set_self (by simp [L.hj])
theorem Made.live {n hd : Int} (M : Made S T H R n hd 0 S' T' H' R') : (liveR R').length = (liveR R).length + 1 ∧ R'.length = R.length + 1 ∧ (∀ k : Nat, (∀ r ∈ R, r.w.length ≤ k) → n ≤ (k : Int) → ∀ r ∈ R', r.w.length ≤ k) := by
  obtain ⟨h0, h1, hne, a, rfl⟩ := M.good rfl
  refine ⟨?_, by simp, fun k h hn r hr => ?_⟩
  · unfold liveR
    rw [List.filter_append, List.filter_cons_of_pos (by simp), List.length_append]
    rfl
  · rcases List.mem_append.1 hr with hr | hr
    · exact h r hr
    · rw [List.mem_singleton.1 hr]
      show (List.replicate n.toNat (0 : Int)).length ≤ k
      rw [List.length_replicate]
      omega
theorem liveR_le (R : List Rc) : (liveR R).length ≤ R.length := List.length_filter_le _ _
theorem liveR_all {R : List Rc} (h : ∀ r ∈ R, 0 ≤ r.a) : liveR R = R := List.filter_eq_self.2 fun r hr => by simpa using h r hr

/-- Without words enough there is no record more. -/
theorem StInv.made_quota (I : StInv S T H R) {n : Int} (h0 : 0 ≤ n) (h1 : n ≤ 3998) (hq : S.quota < ((S.pg.length : Int) + Slb.pagesOf (n + 2)) * 64) (ho : n + 2 ≤ 28 → ∀ a p N k, ¬ Slb.Open H (clsOf (n + 2)) a p N k) {hd er : Int} (M : Made S T H R n hd er S' T' H' R') : er = 3 := by
  have key : ∀ {a : Nat} {S1 : Slb} {H1 : List Ent}, Slb.AllocWay S S1 H H1 (n + 2) a → False := fun W => by
    cases W with
    | slot p N k h o least e pg => exact ho h _ _ _ _ o
    | page f h none ne e pg fr q ad =>
      unfold Slb.pagesOf at hq
      rw [if_pos h] at hq
      omega
    | large f m h hm ne e pg fr q ad => rw [hm] at q; omega
  cases M with
  | arg => omega
  | quota => rfl
  | full h0 hl a S1 H1 e ha A W => exact (key W).elim
  | ok h0 hl a S1 H1 e ha A W => exact (key W).elim
end
theorem pagesOf_le {n : Int} (h : n ≤ 4000) : Slb.pagesOf n ≤ 63 := by unfold Slb.pagesOf; split <;> omega
end Go.Proofs.YtpcomekikeoliaaGreatDoor
