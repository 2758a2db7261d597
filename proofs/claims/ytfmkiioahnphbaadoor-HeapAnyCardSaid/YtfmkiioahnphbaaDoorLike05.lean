/- The plain law of HeapPlays: Alloc, Free, Slide answer as the reference. Condition: the arena is the heap's (Rep). -/
import Derived.Test.YtfmkiioahnphbaaDoorLike04
set_option linter.unusedVariables false
set_option linter.unusedSimpArgs false
set_option maxRecDepth 100000
namespace Go.Proofs.YtfmkiioahnphbaaDoor
open Go Slb
variable {S S' : Slb} {H H' : List Ent} {L L' : List RPg}

theorem Like.mk' (R : Rep S' H') (hm : L'.map RPg.ent = H') (h : ∀ P ∈ L', (P.lg = false → P.many = 1) ∧ (P.lg = true → P.bits = 1)) : Like H' L' :=
  ⟨hm, fun P hP => ⟨(h P hP).1, (h P hP).2, R.good _ (by rw [← hm]; exact List.mem_map_of_mem hP)⟩⟩
theorem Slb.Open.same {c : Nat} (hc : c < 8) {a p p' N N' k k' : Nat} (O : Slb.Open H c a p N k) (O' : Slb.Open H c a p' N' k') : p = p' ∧ k = k' := by
  have h1 := slot_in hc O.lt
  have h2 := slot_in hc O'.lt
  have e1 := O.addr
  have e2 := O'.addr
  have hr := csz_range hc
  have hp : p = p' := by omega
  refine ⟨hp, ?_⟩
  subst hp
  have : k * csz c = k' * csz c := by omega
  exact Nat.eq_of_mul_eq_mul_right (by omega) this

theorem Like.alloc (R : Rep S H) (K : Like H L) {n x er : Int} (A : RAlloc L S.quota n L' x er) :
    ∃ S' H', S.halloc n = (x, er, S') ∧ Rep S' H' ∧ Like H' L' ∧ S'.quota = S.quota := by
  have hgr := K.gr R
  have h0 := K.ok
  have hset : ∀ (L0 : List RPg) (i : Nat) (P' : RPg), (∀ P ∈ L0, P.Ok) → ((P'.lg = false → P'.many = 1) ∧ (P'.lg = true → P'.bits = 1)) → ∀ P ∈ L0.set i P', (P.lg = false → P.many = 1) ∧ (P.lg = true → P.bits = 1) := fun L0 i P' h hP' P hP => by
    rcases List.mem_or_eq_of_mem_set hP with hP | rfl
    · exact ⟨(h P hP).sm, (h P hP).lg⟩
    · exact hP'
  cases A with
  | bad h => exact ⟨S, H, halloc_bad' h, R, K, rfl⟩
  | spot h1 h2 i k P hP Y =>
    obtain ⟨o1, o2⟩ := K.openY R Y hP
    rcases R.halloc h1 (by omega) with ⟨_, _, hno⟩ | ⟨a, S', H', e, Al, W⟩
    · exact absurd o1 (hno h2 _ _ _ _)
    · cases W with
      | slot p N k' h o least eH pg =>
        have ha : a = P.place k := Nat.le_antisymm (least _ _ _ _ o1) (o2 _ _ _ _ o)
        rw [ha] at o
        obtain ⟨ep, ek⟩ := Slb.Open.same (clsOf_lt n) o o1
        have hN : N = P.bits := by
          have := R.uniq o.ent o1.ent ep
          have := congrArg (fun x : Ent => x.2.w) this
          dsimp only at this
          omega
        rw [ep, ek, hN] at eH
        obtain ⟨P0, hP0, hlg, hcls, _⟩ := Y
        rw [hP] at hP0
        cases hP0
        refine ⟨S', H', by rw [e, ha], Al.rep, ?_, Al.quota⟩
        refine Like.mk' Al.rep ?_ (hset L i _ h0 ⟨(h0 P (List.mem_of_getElem? hP)).sm, fun e => by rw [hlg] at e; cases e⟩)
        rw [K.upd R hP (P' := { P with bits := Bt.set P.bits k }) rfl, eH, RPg.ent_sm (P := { P with bits := Bt.set P.bits k }) hlg]
        rw [← hcls]
      | page f h none => exact absurd o1 (none _ _ _ _)
      | large f m h => omega
  | quo h1 h2 N hq =>
    rw [hgr] at hq
    rcases R.halloc h1 h2 with ⟨e, _, _⟩ | ⟨a, S', H', e, Al, W⟩
    · exact ⟨S, H, e, R, K, rfl⟩
    · cases W with
      | slot p N' k' h o => exact absurd o (K.openN (N h) _ _ _ _)
      | page f h none ne eH pg fr q => unfold pagesOf at hq; rw [if_pos h] at hq; omega
      | large f m h hm ne eH pg fr q => subst hm; omega
  | page h1 h2 N hq f c hf hleast hc lo hi =>
    rw [hgr] at hq
    have hm1 : 1 ≤ pagesOf n := by unfold pagesOf; split <;> omega
    have hl := K.least R hm1 hf hleast
    have hpn : (newP n f).n = f := rfl
    have hins : ∀ P ∈ L.take c ++ newP n f :: L.drop c, (P.lg = false → P.many = 1) ∧ (P.lg = true → P.bits = 1) := fun P hP => by
      rcases List.mem_append.1 hP with hP | hP
      · exact ⟨(h0 P (List.mem_of_mem_take hP)).sm, (h0 P (List.mem_of_mem_take hP)).lg⟩
      · rcases List.mem_cons.1 hP with rfl | hP
        · have o := newP_ok h1 h2 f
          exact ⟨o.sm, o.lg⟩
        · exact ⟨(h0 P (List.mem_of_mem_drop hP)).sm, (h0 P (List.mem_of_mem_drop hP)).lg⟩
    rcases R.halloc h1 h2 with ⟨_, hq2, _⟩ | ⟨a, S', H', e, Al, W⟩
    · omega
    · cases W with
      | slot p N' k' h o => exact absurd o (K.openN (N h) _ _ _ _)
      | page f' h none ne eH pg fr q ad =>
        have hp1 : pagesOf n = 1 := by unfold pagesOf; rw [if_pos h]
        rw [hp1] at hl
        have hff : f' = f := by rw [fr, hl]
        subst hff
        refine ⟨S', H', by rw [e, ad], Al.rep, Like.mk' Al.rep ?_ hins, Al.quota⟩
        rw [K.ins R (P := newP n f') lo hi ne, eH, RPg.ent_sm (P := newP n f') (by unfold newP; rw [decide_eq_true h]; rfl)]
        have e1 : (newP n f').cls = clsOf n := if_pos h
        rw [e1]
        rfl
      | large f' m h hm ne eH pg fr q ad =>
        subst hm
        have hff : f' = f := by rw [fr, hl]
        subst hff
        refine ⟨S', H', by rw [e, ad], Al.rep, Like.mk' Al.rep ?_ hins, Al.quota⟩
        rw [K.ins R (P := newP n f') lo hi ne, eH, RPg.ent_lg (P := newP n f') (by unfold newP; rw [decide_eq_false (by omega)]; rfl)]
        rfl

theorem leave_mem {i k : Nat} {P : RPg} (h : ∀ Q ∈ L, (Q.lg = false → Q.many = 1) ∧ (Q.lg = true → Q.bits = 1)) (hP : (P.lg = false → P.many = 1) ∧ P.lg = false) : ∀ Q ∈ leaveL L i P k, (Q.lg = false → Q.many = 1) ∧ (Q.lg = true → Q.bits = 1) := fun Q hQ => by
  unfold leaveL at hQ
  split at hQ
  · exact h Q (List.mem_of_mem_eraseIdx hQ)
  · rcases List.mem_or_eq_of_mem_set hQ with hQ | rfl
    · exact h Q hQ
    · exact ⟨hP.1, fun e => by rw [hP.2] at e; cases e⟩
theorem Like.leaveE (R : Rep S H) (K : Like H L) {i k : Nat} {P : RPg} (hP : L[i]? = some P) (hl : P.lg = false) :
    (leaveL L i P k).map RPg.ent = if Bt.clear P.bits k = 0 then delE H P.n else updE H P.n ⟨1, (P.cls : Nat), (Bt.clear P.bits k : Nat)⟩ := by
  unfold leaveL
  split
  · exact K.del R hP
  · rw [K.upd R hP (P' := { P with bits := Bt.clear P.bits k }) rfl, RPg.ent_sm (P := { P with bits := Bt.clear P.bits k }) hl]

theorem Like.freeA (R : Rep S H) (K : Like H L) {a : Int} {i k : Nat} {P : RPg} (Y : FindY L a i k) (hP : L[i]? = some P) :
    ∃ S' H', S.hfree a = (0, S') ∧ Rep S' H' ∧ Like H' (leaveL L i P k) ∧ S'.quota = S.quota := by
  obtain ⟨k', hf, hw⟩ := K.find R Y hP
  obtain ⟨r, hb, ha, hk, hbit⟩ := K.blk Y hP
  have hm := List.mem_of_getElem? hP
  have o := K.ok P hm
  have hx : (P.n, P.ent.2) ∈ H := K.mem hm
  have hall : ∀ Q ∈ L, (Q.lg = false → Q.many = 1) ∧ (Q.lg = true → Q.bits = 1) := fun Q hQ => ⟨(K.ok Q hQ).sm, (K.ok Q hQ).lg⟩
  unfold Slb.hfree
  rw [hf]
  dsimp only
  rcases hw with ⟨hl, rfl⟩ | ⟨hl, rfl⟩
  · have e2 : P.ent.2.kind = 2 := by rw [RPg.ent_lg hl]
    rw [if_pos e2]
    have hbig := (R.good _ hx).big e2
    have e1 : blkE (P.n, P.ent.2) = [(64 * P.n + 2, P.ent.2.w.toNat)] := blkE_big e2
    have hF := R.delEnt hx e1
    have er := R.release_eq hx
    have e3 : ((P.ent.2.wide : Nat) : Int) = P.ent.2.n := hbig.1
    have hL : leaveL L i P 0 = L.eraseIdx i := by
      unfold leaveL
      rw [o.lg hl]
      exact if_pos rfl
    rw [hL]
    rw [← e3]
    have hR := hF.rep
    rw [er] at hR
    exact ⟨{ S with pg := less S.pg P.n P.ent.2.wide, wd := fun a => if P.n ≤ a / 64 ∧ a / 64 < P.n + P.ent.2.wide then 0 else S.wd a }, delE H P.n, er, hR, Like.mk' hR (K.del R hP) fun Q hQ => hall Q (List.mem_of_mem_eraseIdx hQ), rfl⟩
  · have e2 : P.ent.2 = ⟨1, (P.cls : Nat), (P.bits : Nat)⟩ := by rw [RPg.ent_sm hl]
    rw [e2] at hx ⊢
    rw [if_neg (by show ¬ (1 : Int) = 2; omega)]
    have hk' : k < 62 / csz ((P.cls : Nat) : Int).toNat := by rw [Int.toNat_natCast, ← o.slots_eq hl]; exact hk
    obtain ⟨hF, _, _⟩ := R.leave hx hk' hbit
    refine ⟨_, _, rfl, hF.rep, Like.mk' hF.rep (K.leaveE R hP hl) (leave_mem hall ⟨o.sm, hl⟩), hF.quota⟩
theorem Like.freeN (R : Rep S H) (K : Like H L) {a : Int} (N : FindN L a) : S.hfree a = (5, S) := hfree_none (K.none R N)
end Go.Proofs.YtfmkiioahnphbaaDoor
