/- The plain law of HeapPlays: Slide answers as the reference. Condition: the arena is the heap's (Rep). -/
import Derived.Test.YtfmkiioahnphbaaDoorLike05
set_option linter.unusedVariables false
set_option linter.unusedSimpArgs false
set_option maxRecDepth 100000
namespace Go.Proofs.YtfmkiioahnphbaaDoor
open Go Slb
variable {S S' : Slb} {H H' : List Ent} {L L' : List RPg}

theorem FreeR.erase {i f m : Nat} (hi : i < L.length) : FreeR L f m (i : Nat) ↔ FreeR (L.eraseIdx i) f m (-1) := by
  constructor
  · intro h j P hP _
    rw [List.getElem?_eraseIdx] at hP
    split at hP
    · exact h j P hP (by omega)
    · exact h (j + 1) P hP (by omega)
  · intro h j P hP hne
    by_cases hj : j < i
    · exact h j P (by rw [List.getElem?_eraseIdx, if_pos hj]; exact hP) (by omega)
    · exact h (j - 1) P (by rw [List.getElem?_eraseIdx, if_neg (by omega), show j - 1 + 1 = j by omega]; exact hP) (by omega)
theorem Like.own (R : Rep S H) (K : Like H L) {i k : Nat} {P : RPg} (hP : L[i]? = some P) (hk : k < P.slots) {p : Nat} {h : Hd} (hp : (p, h) ∈ H) (e : P.place k / 64 = p) : p = P.n ∧ h = P.ent.2 := by
  have hm := List.mem_of_getElem? hP
  have h1 := (K.ok P hm).place_page hk
  have h2 : p = P.n := by omega
  exact ⟨h2, congrArg Prod.snd (R.uniq hp (K.mem hm) h2)⟩
theorem blk_at {p : Nat} {h : Hd} (g : h.Good) {a r : Nat} (hb : (a, r) ∈ blkE (p, h)) : a / 64 = p := by
  by_cases h2 : h.kind = 2
  · rw [blkE_big h2] at hb
    have := congrArg Prod.fst (List.mem_singleton.1 hb)
    dsimp only at this
    omega
  · have hs := g.small h2
    obtain ⟨j, hj, _, e⟩ := (mem_small (x := (p, h)) hs.1).1 hb
    have e := congrArg Prod.fst e
    dsimp only at e hj
    have := slot_in (show h.n.toNat < 8 by omega) hj
    have := csz_range (show h.n.toNat < 8 by omega)
    omega

theorem Like.slide (R : Rep S H) (K : Like H L) {a x er : Int} (A : RSlide L a L' x er) :
    ∃ S' H', S.hslide a = (x, er, S') ∧ Rep S' H' ∧ Like H' L' ∧ S'.quota = S.quota := by
  have hall : ∀ Q ∈ L, (Q.lg = false → Q.many = 1) ∧ (Q.lg = true → Q.bits = 1) := fun Q hQ => ⟨(K.ok Q hQ).sm, (K.ok Q hQ).lg⟩
  cases A with
  | none N => exact ⟨S, H, hslide_none' (K.none R N), R, K, rfl⟩
  | big i k P Y hP lg f c hf hleast lt hc lo hi =>
    obtain ⟨r, hb, rfl, hk, hbit⟩ := K.blk Y hP
    have hm := List.mem_of_getElem? hP
    have hil := (List.getElem?_eq_some_iff.1 hP).1
    have o := K.ok P hm
    have hx : (P.n, P.ent.2) ∈ H := K.mem hm
    have e2 : P.ent.2.kind = 2 := by rw [RPg.ent_lg lg]
    have hw : P.ent.2.wide = P.many := o.wide
    have hw1 := (R.good _ hx).wide1
    dsimp only at hw1
    have er := R.release_eq hx
    have hR := R.del hx
    have hpg : (S.release P.n P.ent.2.wide).2.pg = less S.pg P.n P.ent.2.wide := by rw [er]
    have hK1 : Like (delE H P.n) (L.eraseIdx i) := Like.mk' hR (K.del R hP) fun Q hQ => hall Q (List.mem_of_mem_eraseIdx hQ)
    have hl := hK1.least hR (by omega) ((FreeR.erase hil).1 hf) (fun g hg h => hleast g hg ((FreeR.erase hil).2 h))
    have hfr := (hK1.free hR (by omega)).1 ((FreeR.erase hil).1 hf)
    rw [hpg, ← hw] at hl hfr
    have hfresh : ∀ y ∈ delE H P.n, y.1 ≠ f := by
      have := hR.fresh_page (f := f) (n := P.ent.2.wide) (by omega) (by rw [hpg]; exact hfr)
      exact this
    obtain ⟨tq, S', H', e, D, W⟩ := R.hslide hb
    have hk0 : k = 0 := by unfold RPg.slots at hk; rw [if_pos lg] at hk; omega
    cases W with
    | stay p h ent r' blk eH es ea why =>
      obtain ⟨rfl, rfl⟩ := K.own R hP hk ent (blk_at (R.good _ ent) blk)
      rcases why with ⟨_, h2⟩ | ⟨h1, _⟩
      · omega
      · omega
    | small c' q N m p N1 j hc' o' least ent hj hb' ad old =>
      obtain ⟨N0, hold, _⟩ := old
      have hs := slot_in hc' hj
      have := csz_range hc'
      obtain ⟨_, e3⟩ := K.own R hP hk hold (by omega)
      rw [← e3] at e2
      exact absurd e2 (by show (1 : Int) ≠ 2; omega)
    | large p f' h ent kd hf' lt' ha ht eH pg =>
      obtain ⟨rfl, rfl⟩ := K.own R hP hk ent (by omega)
      have hff : f' = f := by rw [← hf', hl]
      subst hff
      refine ⟨S', H', by rw [← ht]; exact e, D.rep, Like.mk' D.rep ?_ ?_, D.quota⟩
      · rw [hK1.ins hR (P := { P with n := f' }) lo hi hfresh, eH, RPg.ent_lg (P := { P with n := f' }) lg]
        rw [RPg.ent_lg lg]
      · intro Q hQ
        rcases List.mem_append.1 hQ with hQ | hQ
        · exact hall Q (List.mem_of_mem_eraseIdx (List.mem_of_mem_take hQ))
        · rcases List.mem_cons.1 hQ with rfl | hQ
          · exact ⟨o.sm, o.lg⟩
          · exact hall Q (List.mem_of_mem_eraseIdx (List.mem_of_mem_drop hQ))
  | bigStay i k P Y hP lg f hf hleast ge =>
    obtain ⟨r, hb, rfl, hk, hbit⟩ := K.blk Y hP
    have hm := List.mem_of_getElem? hP
    have hil := (List.getElem?_eq_some_iff.1 hP).1
    have o := K.ok P hm
    have hx : (P.n, P.ent.2) ∈ H := K.mem hm
    have e2 : P.ent.2.kind = 2 := by rw [RPg.ent_lg lg]
    have hw : P.ent.2.wide = P.many := o.wide
    have hw1 := (R.good _ hx).wide1
    dsimp only at hw1
    have er := R.release_eq hx
    have hR := R.del hx
    have hpg : (S.release P.n P.ent.2.wide).2.pg = less S.pg P.n P.ent.2.wide := by rw [er]
    have hK1 : Like (delE H P.n) (L.eraseIdx i) := Like.mk' hR (K.del R hP) fun Q hQ => hall Q (List.mem_of_mem_eraseIdx hQ)
    have hl := hK1.least hR (by omega) ((FreeR.erase hil).1 hf) (fun g hg h => hleast g hg ((FreeR.erase hil).2 h))
    rw [hpg, ← hw] at hl
    obtain ⟨tq, S', H', e, D, W⟩ := R.hslide hb
    cases W with
    | stay p h ent r' blk eH es ea why => exact ⟨S, H, by rw [e, ea, es], R, K, rfl⟩
    | small c' q N m p N1 j hc' o' least ent hj hb' ad old =>
      obtain ⟨N0, hold, _⟩ := old
      have hs := slot_in hc' hj
      have := csz_range hc'
      obtain ⟨_, e3⟩ := K.own R hP hk hold (by omega)
      rw [← e3] at e2
      exact absurd e2 (by show (1 : Int) ≠ 2; omega)
    | large p f' h ent kd hf' lt' ha ht eH pg =>
      obtain ⟨rfl, rfl⟩ := K.own R hP hk ent (by omega)
      omega
  | smallStay i k P Y hP lg why =>
    obtain ⟨r, hb, rfl, hk, hbit⟩ := K.blk Y hP
    have hm := List.mem_of_getElem? hP
    have e2 : P.ent.2 = ⟨1, (P.cls : Nat), (P.bits : Nat)⟩ := by rw [RPg.ent_sm lg]
    obtain ⟨tq, S', H', e, D, W⟩ := R.hslide hb
    cases W with
    | stay p h ent r' blk eH es ea _ => exact ⟨S, H, by rw [e, ea, es], R, K, rfl⟩
    | small c' q N m p N1 j hc' o' least ent hj hb' ad old lt' =>
      obtain ⟨N0, hold, _⟩ := old
      have hs := slot_in hc' hj
      have := csz_range hc'
      obtain ⟨_, e3⟩ := K.own R hP hk hold (by omega)
      rw [e2] at e3
      have e4 : ((c' : Nat) : Int) = ((P.cls : Nat) : Int) := congrArg Hd.n e3
      have e4 : c' = P.cls := by omega
      subst e4
      rcases why with hN | ⟨j', m', Q, hY, hQ, hlt⟩
      · exact absurd o' (K.openN hN _ _ _ _)
      · have := (K.openY R hY hQ).2 _ _ _ _ o'
        omega
    | large p f' h ent kd hf' lt' ha ht eH pg =>
      obtain ⟨_, e3⟩ := K.own R hP hk ent (by omega)
      rw [e3, e2] at kd
      exact absurd kd (by show (1 : Int) ≠ 2; omega)
  | small i k P Y hP lg j m Q P1 hS hQ le hP1 =>
    obtain ⟨r, hb, rfl, hk, hbit⟩ := K.blk Y hP
    have hm := List.mem_of_getElem? hP
    have o := K.ok P hm
    have e2 : P.ent.2 = ⟨1, (P.cls : Nat), (P.bits : Nat)⟩ := by rw [RPg.ent_sm lg]
    obtain ⟨o1, o2⟩ := K.openY R hS hQ
    obtain ⟨tq, S', H', e, D, W⟩ := R.hslide hb
    cases W with
    | stay p h ent r' blk eH es ea why =>
      obtain ⟨rfl, rfl⟩ := K.own R hP hk ent (blk_at (R.good _ ent) blk)
      rw [e2] at why
      rcases why with ⟨h1, _⟩ | ⟨_, h2⟩
      · exact absurd h1 (by show (1 : Int) ≠ 2; omega)
      · have := h2 _ _ _ _ (by show Slb.Open H ((P.cls : Nat) : Int).toNat _ _ _ _; rw [Int.toNat_natCast]; exact o1)
        omega
    | small c' q N m' p N1 j' hc' o' least ent hj hb' ad old lt' eH pg =>
      obtain ⟨N0, hold, _⟩ := old
      have hs := slot_in hc' hj
      have hr := csz_range hc'
      obtain ⟨e5, e3⟩ := K.own R hP hk hold (by omega)
      rw [e2] at e3
      have e4 : ((c' : Nat) : Int) = ((P.cls : Nat) : Int) := congrArg Hd.n e3
      have e4 : c' = P.cls := by omega
      subst e4
      subst e5
      have hto : tq = Q.place m := Nat.le_antisymm (least _ _ _ _ o1) (o2 _ _ _ _ o')
      rw [hto] at o'
      obtain ⟨eq1, eq2⟩ := Slb.Open.same hc' o' o1
      have eq3 : N = Q.bits := by
        have := R.uniq o'.ent o1.ent eq1
        have := congrArg (fun x : Ent => x.2.w) this
        dsimp only at this
        omega
      rw [eq1, eq2, eq3] at eH ent
      obtain ⟨Q0, hQ0, hQl, hQc, hml, _⟩ := hS
      rw [hQ] at hQ0
      cases hQ0
      have hQm := List.mem_of_getElem? hQ
      have hq : (Q.n, Q.ent.2) ∈ H := K.mem hQm
      have hQ'ok : ({ Q with bits := Bt.set Q.bits m } : RPg).Ok := (K.ok Q hQm).set hQl hml
      have eQ' : ({ Q with bits := Bt.set Q.bits m } : RPg).ent.2 = ⟨1, (P.cls : Nat), (Bt.set Q.bits m : Nat)⟩ := by
        rw [RPg.ent_sm (P := { Q with bits := Bt.set Q.bits m }) hQl, ← hQc]
      have hR1 := R.putE hq (h' := ⟨1, (P.cls : Nat), (Bt.set Q.bits m : Nat)⟩) (by rw [← eQ']; exact hQ'ok.good) (by rw [← eQ', hQ'ok.wide, (K.ok Q hQm).wide])
      have hm1 : (L.set j { Q with bits := Bt.set Q.bits m }).map RPg.ent = updE H Q.n ⟨1, (P.cls : Nat), (Bt.set Q.bits m : Nat)⟩ := by
        rw [K.upd R hQ (P' := { Q with bits := Bt.set Q.bits m }) rfl, eQ']
      have hall1 : ∀ T ∈ L.set j { Q with bits := Bt.set Q.bits m }, (T.lg = false → T.many = 1) ∧ (T.lg = true → T.bits = 1) := fun T hT => by
        rcases List.mem_or_eq_of_mem_set hT with hT | rfl
        · exact hall T hT
        · exact ⟨hQ'ok.sm, hQ'ok.lg⟩
      have hK1 := Like.mk' hR1 hm1 hall1
      have hP1m := List.mem_of_getElem? hP1
      have hP1' : P1.n = P.n ∧ P1.lg = false ∧ P1.cls = P.cls := by
        by_cases eji : j = i
        · subst eji
          rw [hP] at hQ
          cases hQ
          rw [List.getElem?_set_self (List.getElem?_eq_some_iff.1 hP).1] at hP1
          cases hP1
          exact ⟨rfl, lg, rfl⟩
        · rw [List.getElem?_set_ne eji, hP] at hP1
          cases hP1
          exact ⟨rfl, lg, rfl⟩
      have hN1 : N1 = P1.bits := by
        have := hR1.uniq ent (hK1.mem hP1m) hP1'.1.symm
        rw [RPg.ent_sm hP1'.2.1] at this
        have := congrArg (fun x : Ent => x.2.w) this
        dsimp only at this
        omega
      have hj' : j' = k := by
        rw [o.place_eq lg] at ad
        have : k * csz P.cls = j' * csz P.cls := by omega
        exact (Nat.eq_of_mul_eq_mul_right (by omega) this).symm
      refine ⟨S', H', by rw [e, hto], D.rep, Like.mk' D.rep ?_ (leave_mem hall1 ⟨(hK1.ok P1 hP1m).sm, hP1'.2.1⟩), D.quota⟩
      rw [hK1.leaveE hR1 hP1 hP1'.2.1, eH, hN1, hj', hP1'.1, hP1'.2.2]
    | large p f' h ent kd hf' lt' ha ht eH pg =>
      obtain ⟨_, e3⟩ := K.own R hP hk ent (by omega)
      rw [e3, e2] at kd
      exact absurd kd (by show (1 : Int) ≠ 2; omega)
end Go.Proofs.YtfmkiioahnphbaaDoor
