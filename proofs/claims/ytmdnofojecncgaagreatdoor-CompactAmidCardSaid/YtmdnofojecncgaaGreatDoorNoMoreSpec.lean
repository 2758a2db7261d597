/- The plain law of CompactNoMore: where all records have one length and none was dropped, all rest; a slide never has more pages. No program stands here. No condition. -/
import Derived.Test.YtmdnofojecncgaaGreatDoorFillSpec
import Derived.Test.YtmdnofojecncgaaGreatDoorStoreCount
set_option linter.unusedVariables false
set_option linter.unusedSimpArgs false
set_option maxRecDepth 100000
namespace Go.Proofs.YtmdnofojecncgaaGreatDoor
open Go

namespace Slb
variable {S S' : Slb} {H H' : List Ent}

theorem least_range {L m : Nat} (hm : 1 ≤ m) : least (List.range L) m = L := by
  refine least_eq hm (freeB_iff.2 fun k hk => .inl (List.mem_range.1 hk)) fun g hg => ?_
  cases h : freeB (List.range L) g m with
  | false => rfl
  | true =>
    have := freeB_iff.1 h g (List.mem_range.2 hg)
    omega
theorem more_range {L m : Nat} : more (List.range L) L m = List.range (L + m) := by
  unfold more
  have h1 : (List.range L).filter (fun k => decide (k < L)) = List.range L := List.filter_eq_self.2 fun k hk => by simpa using hk
  have h2 : (List.range L).filter (fun k => decide (L + m ≤ k)) = [] := List.filter_eq_nil_iff.2 fun k hk => by
    have := List.mem_range.1 hk
    simp; omega
  rw [h1, h2, List.append_nil, List.range_add]

/-- Places are filled from below, of blocks of one length (n words with their head). -/
structure Pack (S : Slb) (H : List Ent) (n : Int) : Prop where
  pg : S.pg = List.range S.pg.length
  kind : ∀ x ∈ H, (x.2.kind = 1 → n ≤ 28 ∧ x.2.n = ((clsOf n : Nat) : Int)) ∧ (x.2.kind = 2 → 28 < n)
  above : ∀ c a p N k, Open H c a p N k → ∀ b ∈ blks H, b.1 < a

theorem Pack.empty {q n : Int} : Pack (Slb.empty q) [] n := ⟨rfl, (fun x hx => by cases hx), (fun c a p N k O => by cases O.ent)⟩
theorem Pack.cls {n : Int} (P : Pack S H n) {c a p N k : Nat} (O : Open H c a p N k) : n ≤ 28 ∧ c = clsOf n := by
  have := (P.kind _ O.ent).1 rfl
  exact ⟨this.1, by have := this.2; dsimp only at this; omega⟩
theorem Pack.more {n : Int} {m : Nat} (P : Pack S H n) : more S.pg S.pg.length m = List.range (S.pg.length + m) := by
  obtain ⟨L, hL⟩ : ∃ L, S.pg.length = L := ⟨_, rfl⟩
  have hp := P.pg
  rw [hL] at hp ⊢
  rw [hp, more_range]
theorem Pack.least {n : Int} {m : Nat} (P : Pack S H n) (hm : 1 ≤ m) : least S.pg m = S.pg.length := by
  obtain ⟨L, hL⟩ : ∃ L, S.pg.length = L := ⟨_, rfl⟩
  have hp := P.pg
  rw [hL] at hp ⊢
  rw [hp, least_range hm]
theorem Open.page {c a p N k : Nat} (hc : c < 8) (O : Open H c a p N k) : a / 64 = p := by
  have := slot_in hc O.lt
  rw [O.addr]; omega

theorem Pack.alloc {n : Int} {a r : Nat} (P : Pack S H n) (A : Alloced S S' H H' a r) (W : AllocWay S S' H H' n a) (R : Rep S H) : Pack S' H' n := by
  have hmem : ∀ b ∈ blks H', b = (a, r) ∨ b ∈ blks H := fun b hb => by
    rcases List.mem_cons.1 (A.perm.mem_iff.1 hb) with h | h
    · exact .inl h
    · exact .inr h
  cases W with
  | slot p N k h o least e pg =>
    refine ⟨by rw [pg]; exact P.pg, fun x hx => ?_, fun c a' p' N' k' O b hb => ?_⟩
    · rw [e] at hx
      rcases (mem_updE o.ent).1 hx with rfl | ⟨h1, _⟩
      · exact ⟨fun _ => ⟨h, rfl⟩, fun h2 => by cases h2⟩
      · exact P.kind x h1
    · have he := O.ent
      rw [e] at he
      have hlt : ∃ N0, Open H c a' p' N0 k' ∧ a < a' := by
        rcases (mem_updE o.ent).1 he with h1 | ⟨h1, h2⟩
        · simp only [Prod.mk.injEq, Hd.mk.injEq, true_and, Int.natCast_inj] at h1
          obtain ⟨rfl, rfl, rfl⟩ := h1
          have hb := O.bit
          have hk64 : k < 64 := by have := o.lt; have := csz_range (clsOf_lt n); omega
          rw [Bt.set_testBit k hk64 k'] at hb
          have hk : k' ≠ k := fun e => by subst e; simp at hb
          have hb2 : N.testBit k' = false := (Bool.or_eq_false_iff.1 hb).1
          have O' : Open H (clsOf n) a' p' N k' := ⟨o.ent, O.lt, hb2, O.addr⟩
          have h3 := least _ _ _ _ O'
          refine ⟨N, O', Nat.lt_of_le_of_ne h3 fun h4 => hk ?_⟩
          rw [o.addr, O.addr] at h4
          have hs := (csz_range (clsOf_lt n)).1
          have h5 : k * csz (clsOf n) = k' * csz (clsOf n) := by omega
          exact (Nat.eq_of_mul_eq_mul_right (by omega) h5).symm
        · have O' : Open H c a' p' N' k' := ⟨h1, O.lt, O.bit, O.addr⟩
          obtain ⟨_, rfl⟩ := P.cls O'
          have h3 := least _ _ _ _ O'
          refine ⟨N', O', Nat.lt_of_le_of_ne h3 fun h4 => h2 ?_⟩
          have e1 := o.page (clsOf_lt n)
          have e2 := O'.page (clsOf_lt n)
          show p' = p
          rw [← e1, ← e2, h4]
      obtain ⟨N0, O', hlt⟩ := hlt
      rcases hmem b hb with rfl | hb
      · exact hlt
      · exact P.above _ _ _ _ _ O' b hb
  | page f h none ne e pg fr q ad =>
    have hf : f = S.pg.length := by rw [fr]; exact P.least (by omega)
    have hpg : S'.pg = List.range (S.pg.length + 1) := by
      rw [pg, hf]
      exact P.more
    refine ⟨by rw [hpg]; simp, fun x hx => ?_, fun c a' p' N' k' O b hb => ?_⟩
    · rw [e] at hx
      rcases (mem_insE ne).1 hx with rfl | h1
      · exact ⟨fun _ => ⟨h, rfl⟩, fun h2 => by cases h2⟩
      · exact P.kind x h1
    · have he := O.ent
      rw [e] at he
      rcases (mem_insE ne).1 he with h1 | h1
      · simp only [Prod.mk.injEq, Hd.mk.injEq, true_and, Int.natCast_inj] at h1
        obtain ⟨rfl, rfl, h1⟩ := h1
        obtain rfl : N' = 1 := by omega
        have hb1 := O.bit
        have hk : 1 ≤ k' := by
          rcases Nat.eq_zero_or_pos k' with rfl | h
          · simp at hb1
          · exact h
        have hs := (csz_range (clsOf_lt n)).1
        have h5 : 1 * csz (clsOf n) ≤ k' * csz (clsOf n) := Nat.mul_le_mul_right _ hk
        have ha := O.addr
        rcases hmem b hb with rfl | hb
        · show a < a'; omega
        · have := R.blk_range hb
          have hp := (R.blk_page hb (a := b.1) ⟨Nat.le_refl _, by omega⟩).1
          rw [P.pg] at hp
          have := List.mem_range.1 hp
          omega
      · have O' : Open H c a' p' N' k' := ⟨h1, O.lt, O.bit, O.addr⟩
        obtain ⟨_, rfl⟩ := P.cls O'
        exact absurd O' (none _ _ _ _)
  | large f m h hm ne e pg fr q ad =>
    have hm1 : 1 ≤ m := by
      rw [hm]; unfold pagesOf
      rw [if_neg (by omega)]; omega
    have hf : f = S.pg.length := by rw [fr]; exact P.least hm1
    have hpg : S'.pg = List.range (S.pg.length + m) := by
      rw [pg, hf]
      exact P.more
    refine ⟨by rw [hpg]; simp, fun x hx => ?_, fun c a' p' N' k' O b hb => ?_⟩
    · rw [e] at hx
      rcases (mem_insE ne).1 hx with rfl | h1
      · exact ⟨(fun h2 => by cases h2), fun _ => h⟩
      · exact P.kind x h1
    · have he := O.ent
      rw [e] at he
      rcases (mem_insE ne).1 he with h1 | h1
      · simp at h1
      · have := (P.kind _ h1).1 rfl
        omega

/-- No block slides. -/
theorem Pack.rests {n : Int} (P : Pack S H n) (R : Rep S H) {b : Nat × Nat} (hb : b ∈ blks H) : (S.hslide (b.1 : Int)).1 = (b.1 : Int) := by
  obtain ⟨to, S', H', e, _, W⟩ := R.hslide hb
  rw [e]
  dsimp only
  cases W with
  | stay p h ent r blk _ _ ea => rw [ea]
  | small c q N m p N1 j hc o least ent hj hbit ad old lt =>
    have := P.above _ _ _ _ _ o b hb
    omega
  | large p f h ent k hf lt ha ht =>
    have w1 := (R.good _ ent).wide1
    have hp := R.page ent
    rw [P.pg] at hp
    have hp := List.mem_range.1 hp
    have hfr := (least_spec (less S.pg p h.wide) h.wide w1.1).2.1
    rw [hf] at hfr
    have := freeB_iff.1 hfr f (mem_less.2 ⟨by rw [P.pg]; exact List.mem_range.2 (by dsimp only at hp; omega), by omega⟩)
    dsimp only at w1
    omega

/-- How many pages there are. -/
theorem Rep.pg_sum (R : Rep S H) : S.pg.length = (H.map fun x => x.2.wide).sum := by
  rw [R.pg_eq]
  have : ∀ L : List Ent, (L.flatMap runE).length = (L.map fun x => x.2.wide).sum := fun L => by
    induction L with
    | nil => rfl
    | cons x L ih => rw [List.flatMap_cons, List.length_append, ih, List.map_cons, List.sum_cons]; congr 1; unfold runE; simp
  exact this H
theorem Rep.delE_perm (R : Rep S H) {p : Nat} {h : Hd} (hp : (p, h) ∈ H) : H.Perm ((p, h) :: delE H p) := by
  obtain ⟨A, B, e, hA, hB⟩ := R.split hp
  rw [e, delE_split hA hB]
  exact List.perm_middle
/-- A slide never has more pages. -/
theorem SlideWay.pg_le {a to : Nat} (W : SlideWay S S' H H' a to) (R : Rep S H) (R' : Rep S' H') : S'.pg.length ≤ S.pg.length := by
  cases W with
  | stay p h ent r blk e es => rw [es]; exact Nat.le_refl _
  | small c q N m p N1 j hc o least ent hj hbit ad old lt e pg =>
    rw [pg]
    split
    · exact List.length_filter_le _ _
    · exact Nat.le_refl _
  | large p f h ent k hf lt ha ht e pg =>
    rw [R.pg_sum, R'.pg_sum, e]
    have w1 := (R.good _ ent).wide1
    have hfr := (least_spec (less S.pg p h.wide) h.wide w1.1).2.1
    rw [hf] at hfr
    have hne : ∀ x ∈ delE H p, x.1 ≠ f := fun x hx e => by
      have hx := mem_delE.1 hx
      have hxw := (R.good x hx.1).wide1
      have hin : f ∈ less S.pg p h.wide := mem_less.2 ⟨by rw [← e]; exact R.page hx.1, fun hc => hx.2 (by rw [R.inj hx.1 ent (k := f) ⟨by omega, by omega⟩ hc])⟩
      have := freeB_iff.1 hfr f hin
      dsimp only at w1
      omega
    rw [perm_sum ((insE_perm (e := (f, h)) hne).map fun x => x.2.wide), perm_sum ((R.delE_perm ent).map fun x => x.2.wide)]
    exact Nat.le_refl _
end Slb

section
variable {S S' : Slb} {T T' : HTbl} {H H' : List Ent} {R R' : List Rc}
theorem Slides.pg_le {hh er : Int} {is : Bool} (I : StInv S T H R) (D : Slides S T H R hh is er S' T' H' R') : S'.pg.length ≤ S.pg.length := by
  cases D with
  | stale => exact Nat.le_refl _
  | ok j r L tq S2 T2 H2 e le em D W I2 => exact W.pg_le I.rep I2.rep
theorem Stepped.pg_le {is : Bool} (I : StInv S T H R) (D : Stepped S T H R is S' T' H' R') : S'.pg.length ≤ S.pg.length := by
  cases D with
  | done => exact Nat.le_refl _
  | gone pre post x e rest D => exact D.pg_le I

/-- What stands behind k records of n words, one behind the other. -/
structure NoMore (n : Nat) (k : Nat) (s : FSt) : Prop where
  inv : StInv s.S s.T s.H s.R
  pack : Slb.Pack s.S s.H ((n : Int) + 2)
  stk : StK s.S s.T s.R 262144 1000 4294967295
  len : s.R.length ≤ k
  one : ∀ r ∈ s.R, r.w.length = n
theorem NoMore.start (n : Nat) : NoMore n 0 ⟨Slb.empty 262144, ⟨1000, 4294967295, []⟩, [], [], 0⟩ :=
  ⟨StInv.start (by omega) (by omega) (by omega) (by omega) (by omega) (by omega), Slb.Pack.empty, StK.new, Nat.le_refl _, fun r hr => by cases hr⟩
theorem NoMore.ok {n k : Nat} {s : FSt} (K : NoMore n k s) (hn : n ≤ 3998) (hk : k < 60) {hd er : Int} {S' : Slb} {T' : HTbl} {H' : List Ent} {R' : List Rc} (M : Made s.S s.T s.H s.R (n : Int) hd er S' T' H' R') : NoMore n (k + 1) ⟨S', T', H', R', s.n0⟩ := by
  have hlive : (liveR s.R).length ≤ k := Nat.le_trans (List.length_filter_le _ _) K.len
  have hp := pgR_le (R := s.R) (k := 63) (by omega) (fun r hr => by rw [K.one r hr]; omega)
  have hN : s.T.NoRet := HTbl.Gens.noret K.inv.tok K.stk.gens (by have := K.len; rw [K.stk.last]; omega)
  have hpo : Slb.pagesOf ((n : Int) + 2) ≤ 63 := by unfold Slb.pagesOf; split <;> omega
  have e0 := K.inv.made_ok hN (by omega) (by omega) (by rw [K.stk.most]; omega) (by rw [K.stk.quo]; omega) M
  subst e0
  have hst := K.stk.made M
  have hinv := M.inv
  cases M with
  | ok h0 hl a S1 H1 e ha A W hf hd S2 S3 ho d0 d1 w1 w2 hpg hq new I =>
    have hP := K.pack.alloc A W K.inv.rep
    refine ⟨I, ⟨?_, hP.kind, hP.above⟩, hst, ?_, fun r hr => ?_⟩
    · show S'.pg = List.range S'.pg.length
      rw [hpg]; exact hP.pg
    · show (s.R ++ [_]).length ≤ k + 1
      rw [List.length_append]
      have := K.len
      simp; omega
    · rcases List.mem_append.1 hr with h | h
      · exact K.one r h
      · rw [List.mem_singleton.1 h]
        show (List.replicate (n : Int).toNat (0 : Int)).length = n
        simp
/-- No step does anything. -/
theorem NoMore.rest {n k : Nat} {s : FSt} (K : NoMore n k s) {is : Bool} {S' : Slb} {T' : HTbl} {H' : List Ent} {R' : List Rc} (D : Stepped s.S s.T s.H s.R is S' T' H' R') : is = false ∧ S' = s.S ∧ T' = s.T ∧ H' = s.H ∧ R' = s.R := by
  cases D with
  | done => exact ⟨rfl, rfl, rfl, rfl, rfl⟩
  | gone pre post x e rest D =>
    obtain ⟨⟨j, r, L⟩, _⟩ := tried_rec K.inv (x := x) (by rw [e]; simp)
    refine absurd ⟨j, r, L, ?_⟩ (D.goes K.inv)
    have := K.pack.rests K.inv.rep (K.inv.mem (List.mem_of_getElem? L.hj) L.h0)
    have ha := (K.inv.adr (List.mem_of_getElem? L.hj) L.h0).2.2
    dsimp only at this
    rw [ha] at this
    exact this
end
end Go.Proofs.YtmdnofojecncgaaGreatDoor
