/- The plain law of package store: small records of one length: how many pages they have. No program stands here. No condition. -/
import Derived.Test.YtmdnofojecncgaaGreatDoorStoreLawSpec
import Derived.Test.YtmdnofojecncgaaGreatDoorSpareSpec
set_option linter.unusedVariables false
set_option linter.unusedSimpArgs false
set_option maxRecDepth 100000
namespace Go.Proofs.YtmdnofojecncgaaGreatDoor
open Go

theorem cnt_filter (N : Nat) : ∀ n, ((List.range n).filter fun k => N.testBit k).length = Bt.cnt N n
  | 0 => rfl
  | n + 1 => by
    rw [List.range_succ, List.filter_append, List.length_append, cnt_filter N n]
    have e : Bt.cnt N (n + 1) = Bt.cnt N n + (if N.testBit n then 1 else 0) := rfl
    rw [e]
    by_cases h : N.testBit n = true
    · rw [if_pos h, List.filter_cons_of_pos h]; rfl
    · rw [if_neg h, List.filter_cons_of_neg h]; rfl
theorem csz_inj : ∀ a : Fin 8, ∀ b : Fin 8, csz a.val = csz b.val → a = b := by decide

section
variable {S S' : Slb} {T T' : HTbl} {H H' : List Ent} {R R' : List Rc}

/-- All entries are pages of one class. -/
theorem StInv.one_class (I : StInv S T H R) {L : Nat} (hL : L + 2 ≤ 28) (h : ∀ r ∈ liveR R, r.w.length = L) : ∀ x ∈ H, x.2.kind = 1 ∧ x.2.n = ((clsOf ((L : Int) + 2) : Nat) : Int) := fun x hx => by
  have g := I.rep.good x hx
  obtain ⟨b, hb⟩ := blkE_some g
  have hm : b ∈ (liveR R).map rblk := I.perm.mem_iff.1 (Slb.mem_blks.2 ⟨x, hx, hb⟩)
  obtain ⟨r, hr, rfl⟩ := List.mem_map.1 hm
  have hr2 : (rblk r).2 = csz (clsOf ((L : Int) + 2)) := by
    show Slb.roomOf ((r.w.length : Int) + 2) = _
    rw [h r hr]
    unfold Slb.roomOf
    rw [if_pos (by omega)]
  have hc := clsOf_lt ((L : Int) + 2)
  have hcr := csz_range hc
  by_cases h2 : x.2.kind = 2
  · have hg := g.big h2
    rw [blkE_big h2] at hb
    have := congrArg Prod.snd (List.mem_singleton.1 hb)
    rw [hr2] at this
    dsimp only at this
    omega
  · have hs := g.small h2
    obtain ⟨k, hk, _, e⟩ := (mem_small hs.1).1 hb
    have := congrArg Prod.snd e
    rw [hr2] at this
    dsimp only at this
    have hj := csz_inj ⟨_, hc⟩ ⟨x.2.n.toNat, by omega⟩ this
    have := congrArg Fin.val hj
    dsimp only at this
    exact ⟨hs.1, by omega⟩

theorem uniform_sum {c : Nat} (hc : c < 8) : ∀ L : List Ent, (∀ x ∈ L, x.2.kind = 1 ∧ x.2.n = (c : Int) ∧ x.2.Good) → ((blks L).length : Int) + spareL c L = ((62 / csz c : Nat) : Int) * (L.length : Int) ∧ (L.flatMap runE).length = L.length
  | [], _ => by simp [blks, spareL]
  | x :: L, h => by
    have ih := uniform_sum hc L (fun y hy => h y (by simp [hy]))
    obtain ⟨h1, h2, g⟩ := h x (by simp)
    have gs := g.small (by omega)
    have hcr := csz_range hc
    have hlen : (blkE x).length = Bt.cnt x.2.w.toNat (62 / csz c) := by
      rw [blkE_small h1, List.length_map, h2, Int.toNat_natCast, cnt_filter]
    have hsp : spareF (c : Int) x = ((62 / csz c : Nat) : Int) - (Bt.cnt x.2.w.toNat (62 / csz c) : Int) := by
      unfold spareF
      have hcl : Bt.cl ((62 / csz c : Nat) : Int) = 62 / csz c := by unfold Bt.cl; omega
      rw [if_pos ⟨h1, h2⟩, cslots_in (by omega) (by omega), Bt.count_eq]
      simp only [Int.toNat_natCast]
      rw [hcl]
    constructor
    · have e : (blks (x :: L)).length = (blkE x).length + (blks L).length := by unfold blks; rw [List.flatMap_cons, List.length_append]
      rw [e, hlen]
      simp only [spareL, List.length_cons]
      rw [hsp, Int.natCast_add, Int.natCast_add, Int.mul_add]
      have := ih.1
      omega
    · rw [List.flatMap_cons, List.length_append, ih.2, List.length_cons]
      have : (runE x).length = 1 := by simp [runE, gs.2.1]
      omega

theorem StInv.uniform (I : StInv S T H R) {L : Nat} (hL : L + 2 ≤ 28) (h : ∀ r ∈ liveR R, r.w.length = L) :
    ((liveR R).length : Int) + S.spare (clsOf ((L : Int) + 2) : Nat) = ((62 / csz (clsOf ((L : Int) + 2)) : Nat) : Int) * (S.pg.length : Int) := by
  have hc := clsOf_lt ((L : Int) + 2)
  have h1 := I.one_class hL h
  obtain ⟨h2, h3⟩ := uniform_sum hc H (fun x hx => ⟨(h1 x hx).1, (h1 x hx).2, I.rep.good x hx⟩)
  have hp := I.perm.length_eq
  rw [List.length_map] at hp
  have hl : S.pg.length = H.length := by rw [I.rep.pg_eq, h3]
  rw [I.rep.spare_eq hc, hl, ← h2, hp]

/-- A small record more: made just if there is an open slot, or a page more. -/
theorem StInv.made_room (I : StInv S T H R) (A : T.AllOpen) {L : Nat} (hL : L + 2 ≤ 28) {hd er : Int} (M : Made S T H R (L : Int) hd er S' T' H' R') :
    (er = 3 ∧ S.spare (clsOf ((L : Int) + 2) : Nat) = 0 ∧ S.quota < ((S.pg.length : Int) + 1) * 64) ∨
    (er = 10 ∧ (0 < S.spare (clsOf ((L : Int) + 2) : Nat) ∨ ((S.pg.length : Int) + 1) * 64 ≤ S.quota) ∧ ((liveR R).length : Int) = T.most) ∨
    (er = 0 ∧ (0 < S.spare (clsOf ((L : Int) + 2) : Nat) ∨ ((S.pg.length : Int) + 1) * 64 ≤ S.quota) ∧ ((liveR R).length : Int) ≠ T.most ∧ T'.AllOpen) := by
  have hc := clsOf_lt ((L : Int) + 2)
  have hf := A.noret.full I.tok
  rw [I.live] at hf
  have key : ∀ {a : Nat} {S1 : Slb} {H1 : List Ent}, Slb.AllocWay S S1 H H1 ((L : Int) + 2) a → (0 < S.spare (clsOf ((L : Int) + 2) : Nat) ∨ ((S.pg.length : Int) + 1) * 64 ≤ S.quota) := fun W => by
    cases W with
    | slot p N k h o least e pg => exact .inl ((I.rep.spare_pos hc).2 ⟨_, _, _, _, o⟩)
    | page f h none ne e pg fr q ad => exact .inr q
    | large f m h hm ne e pg fr q ad => omega
  cases M with
  | arg hn => omega
  | quota h0 hl e hq ho =>
    refine .inl ⟨rfl, ?_, ?_⟩
    · have h0' : 0 ≤ S.spare (clsOf ((L : Int) + 2) : Nat) := by rw [I.rep.spare_eq hc]; exact (spareL_range _ _).1
      refine Classical.byContradiction fun hne => ?_
      obtain ⟨a, p, N, k, o⟩ := (I.rep.spare_pos hc).1 (by omega)
      exact ho (by omega) a p N k o
    · unfold Slb.pagesOf at hq
      rw [if_pos (by omega)] at hq
      omega
  | full h0 hl a S1 H1 e ha A' W hfr => exact .inr (.inl ⟨rfl, key W, hf.1 hfr⟩)
  | ok h0 hl a S1 H1 e ha A' W hfr => exact .inr (.inr ⟨rfl, key W, fun h => hfr (hf.2 h), A.openK _⟩)
end
end Go.Proofs.YtmdnofojecncgaaGreatDoor
