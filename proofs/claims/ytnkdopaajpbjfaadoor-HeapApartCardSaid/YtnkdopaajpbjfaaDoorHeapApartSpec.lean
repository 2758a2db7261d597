/- The plain law of HeapApart: blocks that are kept, with what they are filled. No program stands here. No condition. -/
import Derived.Test.YtnkdopaajpbjfaaDoorHeapLeastWalk
set_option linter.unusedVariables false
set_option linter.unusedSimpArgs false
namespace Go.Proofs.YtnkdopaajpbjfaaDoor
open Go

/-- A block that is kept: its address, its room, how many words were asked for, with what it is filled. -/
structure KEnt where
  a : Nat
  r : Nat
  n : Nat
  v : Nat

namespace Slb
variable {S S' : Slb} {H H' : List Ent}

/-- What is kept is what there is. -/
structure Kept (S : Slb) (H : List Ent) (K : List KEnt) : Prop where
  rep : Rep S H
  perm : (blks H).Perm (K.map fun k => (k.a, k.r))
  word : ∀ k ∈ K, 1 ≤ k.n ∧ k.n ≤ k.r ∧ k.n ≤ 4000 ∧ k.v ≤ 1000 ∧ ∀ i, i < k.n → S.wd (k.a + i) = (k.v : Int)

theorem Kept.mem {K : List KEnt} (I : Kept S H K) {k : KEnt} (hk : k ∈ K) : (k.a, k.r) ∈ blks H := I.perm.mem_iff.2 (List.mem_map.2 ⟨k, hk, rfl⟩)
theorem Kept.empty {q : Int} (h0 : 0 ≤ q) (h1 : q ≤ 262144) : Kept (Slb.empty q) [] [] := ⟨Rep.empty h0 h1, List.Perm.refl _, by simp⟩

/-- A word of a block. -/
theorem Rep.read_blk (R : Rep S H) {b : Nat × Nat} (hb : b ∈ blks H) {i : Nat} (hi : i < b.2) : S.read ((b.1 : Int) + (i : Int)) = (S.wd (b.1 + i), 0) := by
  have hp := R.blk_page hb (a := b.1 + i) (by omega)
  rw [show (b.1 : Int) + (i : Int) = ((b.1 + i : Nat) : Int) by omega, read_in (err_page hp.1 hp.2.1)]
  rfl
theorem Rep.write_blk (R : Rep S H) {b : Nat × Nat} (hb : b ∈ blks H) {i : Nat} (hi : i < b.2) {v : Int} (v0 : 0 ≤ v) (v1 : v < 18446744073709551616) :
    S.write ((b.1 : Int) + (i : Int)) v = (0, S.wds fun x => if x = b.1 + i then v else S.wd x) ∧ Rep (S.wds fun x => if x = b.1 + i then v else S.wd x) H := by
  have hp := R.blk_page hb (a := b.1 + i) (by omega)
  refine ⟨?_, R.wordsB hb (fun x => ?_) (fun x hx => if_neg (by omega))⟩
  · rw [show (b.1 : Int) + (i : Int) = ((b.1 + i : Nat) : Int) by omega, write_page hp.1 hp.2.1]
  · split
    · omega
    · exact R.ok.words x

/-- A new block, filled so far. -/
structure Filling (S : Slb) (H : List Ent) (K : List KEnt) (a r n v t : Nat) : Prop where
  rep : Rep S H
  perm : (blks H).Perm ((a, r) :: K.map fun k => (k.a, k.r))
  word : ∀ k ∈ K, 1 ≤ k.n ∧ k.n ≤ k.r ∧ k.n ≤ 4000 ∧ k.v ≤ 1000 ∧ ∀ i, i < k.n → S.wd (k.a + i) = (k.v : Int)
  done : ∀ i, i < t → S.wd (a + i) = (v : Int)
  zero : ∀ i, t ≤ i → i < r → S.wd (a + i) = 0

theorem Kept.alloc {K : List KEnt} (I : Kept S H K) {a r : Nat} (A : Alloced S S' H H' a r) (n v : Nat) : Filling S' H' K a r n v 0 :=
  ⟨A.rep, A.perm.trans (I.perm.cons _), fun k hk => by
    obtain ⟨h1, h2, h3, h4, h5⟩ := I.word k hk
    exact ⟨h1, h2, h3, h4, fun i hi => by rw [A.same (k.a, k.r) (I.mem hk) i (by dsimp only; omega)]; exact h5 i hi⟩, fun i hi => by omega, fun i _ hi => A.zero i hi⟩

theorem Filling.step {K : List KEnt} {a r n v t : Nat} (F : Filling S H K a r n v t) (ht : t < r) (hv : v ≤ 1000) :
    S.read ((a : Int) + (t : Int)) = (0, 0) ∧ ∃ S', S.write ((a : Int) + (t : Int)) (v : Int) = (0, S') ∧ Filling S' H K a r n v (t + 1) := by
  have hm : (a, r) ∈ blks H := F.perm.mem_iff.2 (by simp)
  obtain ⟨hw, R'⟩ := F.rep.write_blk hm (i := t) ht (v := (v : Int)) (by omega) (by omega)
  refine ⟨?_, _, hw, R', F.perm, fun k hk => ?_, fun i hi => ?_, fun i h1 h2 => ?_⟩
  · have := F.rep.read_blk hm (i := t) ht
    dsimp only at this
    rw [this, F.zero t (Nat.le_refl _) ht]
  · obtain ⟨h1, h2, h3, h4, h5⟩ := F.word k hk
    refine ⟨h1, h2, h3, h4, fun i hi => ?_⟩
    have hkm : (k.a, k.r) ∈ blks H := F.perm.mem_iff.2 (List.mem_cons_of_mem _ (List.mem_map.2 ⟨k, hk, rfl⟩))
    show (if k.a + i = a + t then (v : Int) else S.wd (k.a + i)) = _
    rw [if_neg (fun e => ?_)]
    · exact h5 i hi
    · have := F.rep.apart hm hkm (a := a + t) (by dsimp only; omega) (by dsimp only; omega)
      have hnd := F.perm.nodup_iff.1 (nodup_blks F.rep)
      rw [List.nodup_cons] at hnd
      exact hnd.1 (this ▸ List.mem_map.2 ⟨k, hk, rfl⟩)
  · show (if a + i = a + t then (v : Int) else S.wd (a + i)) = _
    by_cases e : i = t
    · rw [if_pos (by omega)]
    · rw [if_neg (by omega)]; exact F.done i (by omega)
  · show (if a + i = a + t then (v : Int) else S.wd (a + i)) = _
    rw [if_neg (by omega)]
    exact F.zero i (by omega) h2
theorem Filling.kept {K : List KEnt} {a r n v : Nat} (F : Filling S H K a r n v n) (h1 : 1 ≤ n) (hn : n ≤ r) (h4 : n ≤ 4000) (hv : v ≤ 1000) : Kept S H (K ++ [⟨a, r, n, v⟩]) := by
  refine ⟨F.rep, F.perm.trans ?_, fun k hk => ?_⟩
  · rw [List.map_append]
    exact List.perm_append_comm (l₁ := [(a, r)])
  · rcases List.mem_append.1 hk with hk | hk
    · exact F.word k hk
    · rw [List.mem_singleton.1 hk]
      exact ⟨h1, hn, h4, hv, F.done⟩

theorem split_at {α : Type} {K : List α} {x : Nat} {k : α} (h : K[x]? = some k) : K = K.take x ++ k :: K.drop (x + 1) := by
  have hx := (List.getElem?_eq_some_iff.1 h).1
  have e : K[x] = k := by rw [List.getElem?_eq_getElem hx] at h; exact Option.some.inj h
  rw [← e, ← List.drop_eq_getElem_cons hx, List.take_append_drop]

theorem Kept.free {K : List KEnt} (I : Kept S H K) {x : Nat} {k : KEnt} (hx : K[x]? = some k) : ∃ S' H', S.hfree (k.a : Int) = (0, S') ∧ Kept S' H' (K.take x ++ K.drop (x + 1)) := by
  have hk := List.mem_of_getElem? hx
  obtain ⟨S', H', e, F, _⟩ := I.rep.hfree (I.mem hk)
  have hsp := split_at hx
  have hp : (K.map fun k => (k.a, k.r)).Perm ((k.a, k.r) :: (K.take x ++ K.drop (x + 1)).map fun k => (k.a, k.r)) := by
    conv => lhs; rw [hsp]
    rw [List.map_append, List.map_cons, List.map_append]
    exact List.perm_middle
  have hp2 : (blks H').Perm ((K.take x ++ K.drop (x + 1)).map fun k => (k.a, k.r)) := (F.perm.symm.trans (I.perm.trans hp)).cons_inv
  refine ⟨S', H', e, F.rep, hp2, fun k' hk' => ?_⟩
  have hkm : k' ∈ K := by
    rcases List.mem_append.1 hk' with h | h
    · exact List.mem_of_mem_take h
    · exact List.mem_of_mem_drop h
  obtain ⟨h1, h2, h3, h4, h5⟩ := I.word k' hkm
  exact ⟨h1, h2, h3, h4, fun i hi => by rw [F.same (k'.a, k'.r) (hp2.mem_iff.2 (List.mem_map.2 ⟨k', hk', rfl⟩)) i (by dsimp only; omega)]; exact h5 i hi⟩

theorem Kept.slide {K : List KEnt} (I : Kept S H K) {x : Nat} {k : KEnt} (hx : K[x]? = some k) : ∃ (to : Nat) (S' : Slb) (H' : List Ent), S.hslide (k.a : Int) = (((to : Nat) : Int), 0, S') ∧ Kept S' H' (K.set x { k with a := to }) ∧ to ≤ k.a := by
  have hk := List.mem_of_getElem? hx
  have hxl := (List.getElem?_eq_some_iff.1 hx).1
  obtain ⟨to, S', H', e, L, _⟩ := I.rep.hslide (I.mem hk)
  have hsp := split_at hx
  have hset : K.set x { k with a := to } = K.take x ++ { k with a := to } :: K.drop (x + 1) := List.set_eq_take_append_cons_drop.trans (if_pos hxl)
  obtain ⟨l, p1, p2⟩ := L.perm
  have hp : (K.map fun k => (k.a, k.r)).Perm ((k.a, k.r) :: (K.take x ++ K.drop (x + 1)).map fun k => (k.a, k.r)) := by
    conv => lhs; rw [hsp]
    rw [List.map_append, List.map_cons, List.map_append]
    exact List.perm_middle
  have hl : l.Perm ((K.take x ++ K.drop (x + 1)).map fun k => (k.a, k.r)) := (p1.symm.trans (I.perm.trans hp)).cons_inv
  have hp3 : (blks H').Perm ((K.set x { k with a := to }).map fun k => (k.a, k.r)) := by
    rw [hset, List.map_append, List.map_cons]
    refine p2.trans ((hl.cons _).trans ?_)
    rw [List.map_append]
    exact List.perm_middle.symm
  refine ⟨to, S', H', e, ⟨L.rep, hp3, fun k' hk' => ?_⟩, L.le⟩
  rw [hset] at hk'
  have hcase : k' = { k with a := to } ∨ k' ∈ K.take x ++ K.drop (x + 1) := by
    rcases List.mem_append.1 hk' with h | h
    · exact .inr (List.mem_append_left _ h)
    · rcases List.mem_cons.1 h with h | h
      · exact .inl h
      · exact .inr (List.mem_append_right _ h)
  rcases hcase with rfl | h
  · obtain ⟨h1, h2, h3, h4, h5⟩ := I.word k hk
    exact ⟨h1, h2, h3, h4, fun i hi => by
      show S'.wd (to + i) = _
      rw [L.word i (by dsimp only at hi; omega)]; exact h5 i hi⟩
  · have hkm : k' ∈ K := by
      rcases List.mem_append.1 h with h | h
      · exact List.mem_of_mem_take h
      · exact List.mem_of_mem_drop h
    obtain ⟨h1, h2, h3, h4, h5⟩ := I.word k' hkm
    refine ⟨h1, h2, h3, h4, fun i hi => ?_⟩
    have hne : (k'.a, k'.r) ≠ (k.a, k.r) := fun e2 => by
      have hnd := (I.perm.trans hp).nodup_iff.1 (nodup_blks I.rep)
      rw [List.nodup_cons] at hnd
      exact hnd.1 (e2 ▸ List.mem_map.2 ⟨k', h, rfl⟩)
    rw [L.same (k'.a, k'.r) (I.mem hkm) hne i (by dsimp only; omega)]
    exact h5 i hi

theorem Kept.bound {K : List KEnt} (I : Kept S H K) {k : KEnt} (hk : k ∈ K) : k.a ≤ 67108864 ∧ k.n ≤ 4000 ∧ k.v ≤ 1000 ∧ 1 ≤ k.n := by
  have := I.rep.blk_range (I.mem hk)
  obtain ⟨h1, h2, h3, h4, _⟩ := I.word k hk
  dsimp only at this
  omega
theorem Kept.live {K : List KEnt} (I : Kept S H K) : S.live.length = K.length := by
  rw [I.rep.live, List.length_map, I.perm.length_eq, List.length_map]
theorem Kept.read {K : List KEnt} (I : Kept S H K) {k : KEnt} (hk : k ∈ K) {i : Nat} (hi : i < k.n) : S.read ((k.a : Int) + (i : Int)) = ((k.v : Int), 0) := by
  obtain ⟨h1, h2, _, _, h5⟩ := I.word k hk
  have := I.rep.read_blk (I.mem hk) (i := i) (by dsimp only; omega)
  dsimp only at this
  rw [this, h5 i hi]
end Slb
end Go.Proofs.YtnkdopaajpbjfaaDoor
