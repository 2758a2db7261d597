/- The plain law of HeapLeast: blocks of one class, made one behind the other. No program stands here. No condition. -/
import Derived.Test.YtnkdopaajpbjfaaDoorHeapBackWalk
set_option linter.unusedVariables false
set_option linter.unusedSimpArgs false
namespace Go.Proofs.YtnkdopaajpbjfaaDoor
open Go
namespace Slb
variable {S S' : Slb} {H H' : List Ent}

/-- Pages of one class, one behind the other, filled from below. -/
structure Fill (S : Slb) (H : List Ent) (c : Nat) : Prop where
  rep : Rep S H
  ent : ∀ x ∈ H, ∃ N : Nat, x.2 = ⟨1, (c : Nat), (N : Nat)⟩
  pg : S.pg = List.range S.pg.length
  top : ∀ a p N k, Open H c a p N k → ∀ b ∈ blks H, b.1 < a

theorem least_range (k : Nat) : least (List.range k) 1 = k := by
  refine least_eq (by omega) (freeB_iff.2 fun j hj => ?_) (fun g hg => ?_)
  · have := List.mem_range.1 hj; omega
  · refine Bool.eq_false_iff.2 fun h => ?_
    rcases freeB_iff.1 h g (List.mem_range.2 hg) with h | h <;> omega
theorem more_range (k : Nat) : more (List.range k) k 1 = List.range (k + 1) := by
  unfold more
  rw [List.filter_eq_self.2 (fun j hj => by have := List.mem_range.1 hj; simp; omega), List.filter_eq_nil_iff.2 (fun j hj => by have := List.mem_range.1 hj; simp; omega), List.append_nil]
  show List.range k ++ [k + 0] = _
  rw [List.range_succ]
  rfl

theorem Fill.page_lt {c : Nat} (I : Fill S H c) {x : Ent} (hx : x ∈ H) : x.1 < S.pg.length ∧ x.2.wide = 1 := by
  have := I.rep.page hx
  rw [I.pg] at this
  obtain ⟨N, hN⟩ := I.ent x hx
  refine ⟨List.mem_range.1 this, ?_⟩
  rw [hN]; rfl

theorem Fill.alloc {c : Nat} (hc : c < 8) (I : Fill S H c) {n : Int} {a : Nat} (h28 : n ≤ 28) (hcn : clsOf n = c) (A : Alloced S S' H H' a (csz c)) (W : AllocWay S S' H H' n a) :
    Fill S' H' c ∧ (∀ b ∈ blks H, b.1 < a) := by
  subst hcn
  cases W with
  | slot p N k h o least e pg =>
    have hin := I.rep.page o.ent
    refine ⟨⟨A.rep, fun x hx => ?_, by rw [pg]; exact I.pg, fun a' p' N' k' O b hb => ?_⟩, fun b hb => I.top _ _ _ _ o b hb⟩
    · rw [e] at hx
      rcases (mem_updE o.ent).1 hx with rfl | ⟨hx, _⟩
      · exact ⟨_, rfl⟩
      · exact I.ent x hx
    · have hO : (∀ b ∈ blks H, b.1 < a') ∧ a < a' := by
        have hm := O.ent
        rw [e] at hm
        rcases (mem_updE o.ent).1 hm with h1 | ⟨h1, h2⟩
        · simp only [Prod.mk.injEq, Hd.mk.injEq, true_and] at h1
          obtain ⟨rfl, h1⟩ := h1
          have hN : N' = Bt.set N (k : Int) := by omega
          have hr := csz_range (clsOf_lt n)
          have hb' := O.bit
          rw [hN, Bt.set_testBit k (by have := o.lt; omega), Bool.or_eq_false_iff] at hb'
          have hkk : k' ≠ k := by simpa using hb'.2
          have O2 : Open H (clsOf n) a' p' N k' := ⟨o.ent, O.lt, hb'.1, O.addr⟩
          refine ⟨I.top _ _ _ _ O2, ?_⟩
          have := least _ _ _ _ O2
          have hne : a ≠ a' := fun e2 => by
            have h1 := o.addr
            have h2 := O.addr
            have : k * csz (clsOf n) = k' * csz (clsOf n) := by omega
            exact hkk (Nat.eq_of_mul_eq_mul_right (by omega) this).symm
          omega
        · have O2 : Open H (clsOf n) a' p' N' k' := ⟨h1, O.lt, O.bit, O.addr⟩
          refine ⟨I.top _ _ _ _ O2, ?_⟩
          have := least _ _ _ _ O2
          have hne : a ≠ a' := fun e2 => by
            have h3 := o.addr
            have h4 := O.addr
            have i1 := slot_in hc o.lt
            have i2 := slot_in hc O.lt
            dsimp only at h2
            omega
          omega
      rcases List.mem_cons.1 (A.perm.mem_iff.1 hb) with rfl | hb
      · exact hO.2
      · exact hO.1 b hb
  | page f h none ne e pg fr q ad =>
    have hf : f = S.pg.length := by rw [fr]; conv => lhs; rw [I.pg]
                                    exact least_range _
    have hpg : S'.pg = List.range (S.pg.length + 1) := by rw [pg, hf]; conv => lhs; rw [I.pg]
                                                          simp only [List.length_range]
                                                          exact more_range _
    have below : ∀ b ∈ blks H, b.1 < a := fun b hb => by
      obtain ⟨x, hx, hbx⟩ := mem_blks.1 hb
      have := I.page_lt hx
      have := blkE_in (I.rep.good x hx) hbx
      omega
    refine ⟨⟨A.rep, fun x hx => ?_, by rw [hpg, List.length_range], fun a' p' N' k' O b hb => ?_⟩, below⟩
    · rw [e] at hx
      rcases (mem_insE ne).1 hx with rfl | hx
      · exact ⟨1, rfl⟩
      · exact I.ent x hx
    · have hm := O.ent
      rw [e] at hm
      rcases (mem_insE ne).1 hm with h1 | h1
      · simp only [Prod.mk.injEq, Hd.mk.injEq, true_and] at h1
        obtain ⟨rfl, h1⟩ := h1
        have hN : N' = 1 := by omega
        have hb' := O.bit
        rw [hN] at hb'
        have hk0 : k' ≠ 0 := fun e0 => by rw [e0] at hb'; simp at hb'
        have hr := csz_range hc
        have hmul : 1 * csz (clsOf n) ≤ k' * csz (clsOf n) := Nat.mul_le_mul_right _ (by omega)
        have hlt : a < a' := by have := O.addr; omega
        rcases List.mem_cons.1 (A.perm.mem_iff.1 hb) with rfl | hb
        · exact hlt
        · have := below b hb; omega
      · exact absurd ⟨h1, O.lt, O.bit, O.addr⟩ (none a' p' N' k')
  | large f m h => omega

/-- What is freed amid the others leaves the least free slot. -/
theorem Fill.free {c : Nat} (hc : c < 8) (I : Fill S H c) {b b1 : Nat × Nat} (hb : b ∈ blks H) (hb1 : b1 ∈ blks H) (hlt : b.1 < b1.1) :
    ∃ S' H', S.hfree (b.1 : Int) = (0, S') ∧ Freed S S' H H' b.1 b.2 ∧ (∀ x ∈ H', ∃ N : Nat, x.2 = ⟨1, (c : Nat), (N : Nat)⟩) ∧ S'.pg = S.pg ∧ (∃ p N k, Open H' c b.1 p N k) ∧ ∀ a p N k, Open H' c a p N k → b.1 ≤ a := by
  obtain ⟨S', H', e, F, p, h, hent, hbe, hw⟩ := I.rep.hfree hb
  obtain ⟨N, hN⟩ := I.ent _ hent
  dsimp only at hN
  subst hN
  have g := I.rep.good _ hent
  have gw := g.w64
  dsimp only at g gw
  have hr := csz_range hc
  obtain ⟨k, hk, hbit, hbk⟩ := (mem_small (x := (p, ⟨1, (c : Nat), (N : Nat)⟩)) rfl).1 hbe
  dsimp only at hk hbit hbk
  rw [Int.toNat_natCast] at hk hbit hbk
  have hba : b.1 = 64 * p + 2 + k * csz c := by rw [hbk]
  rcases hw with ⟨_, _, hone⟩ | ⟨_, w, hwl, eH, hpg, hperm⟩
  · -- the page would be b's alone: then a slot of it were free below b1
    exfalso
    have hex : ∃ k', k' < 62 / csz c ∧ k' ≠ k := if h0 : k = 0 then ⟨1, by omega, by omega⟩ else ⟨0, by omega, by omega⟩
    obtain ⟨k', hk', hkk⟩ := hex
    have hbf : N.testBit k' = false := by
      cases hN' : N.testBit k' with
      | false => rfl
      | true =>
        have hm : (64 * p + 2 + k' * csz c, csz c) ∈ blkE (p, ⟨1, (c : Nat), (N : Nat)⟩) := (mem_small rfl).2 ⟨k', by dsimp only; rw [Int.toNat_natCast]; exact hk', by dsimp only; rw [Int.toNat_natCast]; exact hN', by dsimp only; rw [Int.toNat_natCast]⟩
        rw [hone] at hm
        have := congrArg Prod.fst (List.mem_singleton.1 hm)
        dsimp only at this
        have : k' * csz c = k * csz c := by omega
        exact absurd (Nat.eq_of_mul_eq_mul_right (by omega) this) hkk
    have O : Open H c (64 * p + 2 + k' * csz c) p N k' := ⟨hent, hk', hbf, rfl⟩
    have h1 := I.top _ _ _ _ O b1 hb1
    obtain ⟨x, hx, hbx⟩ := mem_blks.1 hb1
    have hi := blkE_in (I.rep.good x hx) hbx
    have hxw := (I.page_lt hx).2
    have hs := slot_in hc hk'
    have hs2 := slot_in hc hk
    have hpx : x.1 = p := by omega
    have := I.rep.uniq hx hent hpx
    subst this
    rw [hone] at hbx
    rw [List.mem_singleton.1 hbx] at hlt
    omega
  · refine ⟨S', H', e, F, fun x hx => ?_, hpg, ?_, ?_⟩
    · rw [eH] at hx
      rcases (mem_updE hent).1 hx with rfl | ⟨hx, _⟩
      · have gn := F.rep.good (p, ⟨1, (c : Nat), w⟩) (by rw [eH]; exact (mem_updE hent).2 (.inl rfl))
        have := gn.w64
        dsimp only at this
        exact ⟨w.toNat, by dsimp only; congr 1; omega⟩
      · exact I.ent x hx
    all_goals
      have gn := F.rep.good (p, ⟨1, (c : Nat), w⟩) (by rw [eH]; exact (mem_updE hent).2 (.inl rfl))
      have gnw := gn.w64
      dsimp only at gnw
      obtain ⟨M, rfl⟩ : ∃ M : Nat, w = M := ⟨w.toNat, by omega⟩
      dsimp only at hperm
      have bitM : ∀ k', k' < 62 / csz c → (N.testBit k' = true ↔ k' = k ∨ M.testBit k' = true) := fun k' hk' => by
        have h1 : (64 * p + 2 + k' * csz c, csz c) ∈ blkE (p, ⟨1, (c : Nat), (N : Nat)⟩) ↔ N.testBit k' = true := by
          rw [mem_small rfl]
          dsimp only
          rw [Int.toNat_natCast, Int.toNat_natCast]
          constructor
          · rintro ⟨j, _, hj2, hj3⟩
            have : k' * csz c = j * csz c := by have := congrArg Prod.fst hj3; dsimp only at this; omega
            rw [Nat.eq_of_mul_eq_mul_right (by omega) this]; exact hj2
          · intro hh; exact ⟨k', hk', hh, rfl⟩
        have h2 : (64 * p + 2 + k' * csz c, csz c) ∈ blkE (p, ⟨1, (c : Nat), (M : Nat)⟩) ↔ M.testBit k' = true := by
          rw [mem_small rfl]
          dsimp only
          rw [Int.toNat_natCast, Int.toNat_natCast]
          constructor
          · rintro ⟨j, _, hj2, hj3⟩
            have : k' * csz c = j * csz c := by have := congrArg Prod.fst hj3; dsimp only at this; omega
            rw [Nat.eq_of_mul_eq_mul_right (by omega) this]; exact hj2
          · intro hh; exact ⟨k', hk', hh, rfl⟩
        rw [← h1, ← h2, hperm.mem_iff, List.mem_cons]
        constructor
        · rintro (h | h)
          · have := congrArg Prod.fst h
            dsimp only at this
            exact .inl (Nat.eq_of_mul_eq_mul_right (show 0 < csz c by omega) (by omega))
          · exact .inr h
        · rintro (rfl | h)
          · exact .inl hbk.symm
          · exact .inr h
      have hMk : M.testBit k = false := by
        cases hM : M.testBit k with
        | false => rfl
        | true =>
          exfalso
          have hnd : (blkE (p, ⟨1, (c : Nat), (N : Nat)⟩)).Nodup := (blkE_pair g).imp_of_mem (by
            intro a b ha hb h e
            subst e
            have := blkE_in g ha
            omega)
          have := hperm.nodup_iff.1 hnd
          rw [List.nodup_cons] at this
          refine this.1 ((mem_small rfl).2 ⟨k, by dsimp only; rw [Int.toNat_natCast]; exact hk, by dsimp only; rw [Int.toNat_natCast]; exact hM, by dsimp only; rw [Int.toNat_natCast]; exact hbk⟩)
    · exact ⟨p, M, k, by rw [eH]; exact (mem_updE hent).2 (.inl rfl), hk, hMk, hba⟩
    · intro a' p' N' k' O
      have hm := O.ent
      rw [eH] at hm
      rcases (mem_updE hent).1 hm with h1 | ⟨h1, h2⟩
      · simp only [Prod.mk.injEq, Hd.mk.injEq, true_and] at h1
        obtain ⟨rfl, h1⟩ := h1
        have hN' : N' = M := by omega
        subst hN'
        by_cases hkk : k' = k
        · have := O.addr; rw [hkk] at this; omega
        · have hNf : N.testBit k' = false := by
            cases hN' : N.testBit k' with
            | false => rfl
            | true =>
              rcases (bitM k' O.lt).1 hN' with h | h
              · exact absurd h hkk
              · exact Bool.noConfusion (O.bit.symm.trans h)
          have := I.top _ _ _ _ ⟨hent, O.lt, hNf, O.addr⟩ b hb
          omega
      · have := I.top _ _ _ _ (⟨h1, O.lt, O.bit, O.addr⟩ : Open H c a' p' N' k') b hb
        omega

/-- A block of another class goes to a page of its own. -/
theorem other_class {c : Nat} {n : Int} {a : Nat} (hent : ∀ x ∈ H, ∃ N : Nat, x.2 = ⟨1, (c : Nat), (N : Nat)⟩) (hne : clsOf n ≠ c) (h28 : n ≤ 28) (W : AllocWay S S' H H' n a) :
    ∀ a' p' N' k', Open H' c a' p' N' k' ↔ Open H c a' p' N' k' := by
  cases W with
  | slot p N k h o least e pg =>
    obtain ⟨M, hM⟩ := hent _ o.ent
    simp only [Hd.mk.injEq, true_and] at hM
    exact absurd (by omega) hne
  | page f h none ne e pg fr q ad =>
    intro a' p' N' k'
    rw [e]
    constructor
    · intro O
      rcases (mem_insE ne).1 O.ent with h1 | h1
      · simp only [Prod.mk.injEq, Hd.mk.injEq, true_and] at h1
        exact absurd (by omega) hne
      · exact ⟨h1, O.lt, O.bit, O.addr⟩
    · intro O
      exact ⟨(mem_insE ne).2 (.inr O.ent), O.lt, O.bit, O.addr⟩
  | large f m h => omega

theorem alloc_least {c : Nat} {n : Int} {a b : Nat} (hcn : clsOf n = c) (h28 : n ≤ 28) (hex : ∃ p N k, Open H c b p N k) (hmin : ∀ a p N k, Open H c a p N k → b ≤ a) (W : AllocWay S S' H H' n a) : a = b := by
  subst hcn
  obtain ⟨p0, N0, k0, O⟩ := hex
  cases W with
  | slot p N k h o least e pg =>
    have := least _ _ _ _ O
    have := hmin _ _ _ _ o
    omega
  | page f h none ne e pg fr q ad => exact absurd O (none _ _ _ _)
  | large f m h => omega
end Slb
end Go.Proofs.YtnkdopaajpbjfaaDoor
