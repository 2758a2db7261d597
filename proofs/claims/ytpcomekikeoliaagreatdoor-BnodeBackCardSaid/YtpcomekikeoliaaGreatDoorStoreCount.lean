/- The plain law of package store: how many pages records have; when all slots are taken. No program stands here. No condition. -/
import Derived.Test.YtpcomekikeoliaaGreatDoorStoreSpec3
set_option linter.unusedVariables false
set_option linter.unusedSimpArgs false
set_option maxRecDepth 100000
namespace Go.Proofs.YtpcomekikeoliaaGreatDoor
open Go

theorem le_sum {l : List Nat} {x : Nat} (h : x ∈ l) : x ≤ l.sum := by
  induction l with
  | nil => cases h
  | cons y l ih =>
    rw [List.sum_cons]
    rcases List.mem_cons.1 h with rfl | h
    · omega
    · have := ih h; omega
theorem sum_le {α : Type} {f : α → Nat} {k : Nat} : ∀ {l : List α}, (∀ x ∈ l, f x ≤ k) → (l.map f).sum ≤ k * l.length
  | [], _ => by simp
  | x :: l, h => by
    have h1 := h x (by simp)
    have h2 := sum_le (l := l) (f := f) (k := k) (fun y hy => h y (by simp [hy]))
    rw [List.map_cons, List.sum_cons, List.length_cons, Nat.mul_add]
    omega
theorem perm_sum {l m : List Nat} (h : l.Perm m) : l.sum = m.sum := by
  induction h with
  | nil => rfl
  | cons x _ ih => rw [List.sum_cons, List.sum_cons, ih]
  | swap x y l => simp only [List.sum_cons]; omega
  | trans _ _ h1 h2 => exact h1.trans h2

theorem wide_le {x : Ent} (g : x.2.Good) : x.2.wide ≤ ((blkE x).map fun b => pgs b.2).sum := by
  obtain ⟨b, hb⟩ := blkE_some g
  have h2 := (blkE_pages g hb).2
  have := le_sum (List.mem_map.2 ⟨b, hb, rfl⟩ : pgs b.2 ∈ (blkE x).map fun b => pgs b.2)
  omega
theorem Slb.Rep.pages_le {S : Slb} {H : List Ent} (R : Slb.Rep S H) : S.pg.length ≤ ((blks H).map fun b => pgs b.2).sum := by
  rw [R.pg_eq]
  have : ∀ L : List Ent, (∀ x ∈ L, x.2.Good) → (L.flatMap runE).length ≤ ((blks L).map fun b => pgs b.2).sum := by
    intro L
    induction L with
    | nil => intro _; simp [blks]
    | cons x L ih =>
      intro h
      have hl : (runE x).length = x.2.wide := by simp [runE]
      unfold blks at ih ⊢
      rw [List.flatMap_cons, List.length_append, hl, List.flatMap_cons, List.map_append, List.sum_append]
      have h1 := wide_le (h x (by simp))
      have h2 := ih (fun y hy => h y (by simp [hy]))
      omega
  exact this H R.good
theorem pgs_room {n : Int} (h1 : 1 ≤ n) (h2 : n ≤ 4000) : pgs (Slb.roomOf n) = Slb.pagesOf n := by
  unfold pgs Slb.roomOf Slb.pagesOf
  by_cases h : n ≤ 28
  · rw [if_pos h, if_pos h]
    have := Slb.roomOf_range h1 h2
    unfold Slb.roomOf at this
    rw [if_pos h] at this
    have h3 : csz (clsOf n) ≤ 28 := by
      exact (csz_range (clsOf_lt n)).2.1
    rw [if_pos h3]
  · rw [if_neg h, if_neg h, if_neg (by omega)]
    omega

/-- How many pages the records have, at most. -/
def pgR (R : List Rc) : Nat := ((liveR R).map fun r => Slb.pagesOf ((r.w.length : Int) + 2)).sum
section
variable {S : Slb} {T : HTbl} {H : List Ent} {R : List Rc}
theorem StInv.pages_le (I : StInv S T H R) : S.pg.length ≤ pgR R := by
  refine Nat.le_trans I.rep.pages_le ?_
  rw [perm_sum (I.perm.map fun b => pgs b.2), List.map_map]
  unfold pgR
  refine Nat.le_of_eq (congrArg List.sum (List.map_congr_left fun r hr => ?_))
  have hm := List.mem_filter.1 hr
  have hw := (I.words r hm.1 (by simpa using hm.2)).1
  exact pgs_room (by omega) (by omega)
theorem pgR_le {k : Nat} (hk : 1 ≤ k) (h : ∀ r ∈ R, (r.w.length : Int) + 2 ≤ 64 * k - 2) : pgR R ≤ k * (liveR R).length := by
  refine sum_le fun r hr => ?_
  have := h r (List.mem_filter.1 hr).1
  unfold Slb.pagesOf
  split <;> omega
end

namespace HTbl
/-- No slot is retired. -/
def NoRet (T : HTbl) : Prop := ∀ s ∈ T.l, s.is ≠ 2
/-- No slot was opened more often than that. -/
def Gens (T : HTbl) (n : Nat) : Prop := ∀ s ∈ T.l, s.gen ≤ (n : Int)
/-- No slot was closed. -/
def AllOpen (T : HTbl) : Prop := ∀ s ∈ T.l, s.is = 1
variable {T T' : HTbl}
theorem Gens.noret {n : Nat} (hT : T.Ok) (G : T.Gens n) (hn : (n : Int) < T.last) : T.NoRet := fun s hs h2 => by
  obtain ⟨k, hk⟩ := List.mem_iff_getElem?.1 hs
  have := hT.slots k s hk
  have := G s hs
  unfold SlotOk at *
  omega
theorem AllOpen.noret (A : T.AllOpen) : T.NoRet := fun s hs h2 => by have := A s hs; omega
theorem NoRet.full (hT : T.Ok) (N : T.NoRet) : (T.free : Int) = T.most ↔ (T.opens : Int) = T.most := by
  have hl := hT.len
  have ho : T.opens ≤ T.l.length := List.countP_le_length
  constructor
  · intro h
    have h1 : T.free ≤ T.l.length := freeIn_le T.l
    have h2 : T.opens = T.l.length := by
      refine List.countP_eq_length.2 fun s hs => ?_
      obtain ⟨k, hk⟩ := List.mem_iff_getElem?.1 hs
      have hkl := (List.getElem?_eq_some_iff.1 hk).1
      have h3 := freeIn_before T.l k s (by show k < T.free; omega) hk
      have h4 := N s hs
      have h5 := hT.slots k s hk
      unfold SlotOk at h5
      have : s.is = 1 := by omega
      simp [this]
    omega
  · intro h
    have h2 : T.opens = T.l.length := by omega
    have h3 := List.countP_eq_length.1 h2
    have : T.free = T.l.length := freeIn_eq T.l _ (fun k s _ hk => by have := h3 s (List.mem_of_getElem? hk); simp at this; omega) (Nat.le_refl _) (fun s hs => by simp at hs)
    omega
theorem genAt_le {n : Nat} (G : T.Gens n) (k : Nat) : T.genAt k ≤ (n : Int) := by
  unfold genAt
  cases hk : T.l[k]? with
  | none => dsimp only; omega
  | some s => exact G s (List.mem_of_getElem? hk)
theorem Gens.openK {n : Nat} (G : T.Gens n) (a : Int) : (T.openK a).Gens (n + 1) := fun s hs => by
  have hg := genAt_le G T.free
  have hs : s ∈ (if T.free < T.l.length then T.l.set T.free ⟨1, T.genAt T.free + 1, a⟩ else T.l ++ [⟨1, T.genAt T.free + 1, a⟩]) := hs
  split at hs
  · rcases List.mem_or_eq_of_mem_set hs with h | rfl
    · have := G s h; omega
    · dsimp only; omega
  · rcases List.mem_append.1 hs with h | h
    · have := G s h; omega
    · rw [List.mem_singleton.1 h]; dsimp only; omega
theorem AllOpen.openK (A : T.AllOpen) (a : Int) : (T.openK a).AllOpen := fun s hs => by
  have hs : s ∈ (if T.free < T.l.length then T.l.set T.free ⟨1, T.genAt T.free + 1, a⟩ else T.l ++ [⟨1, T.genAt T.free + 1, a⟩]) := hs
  split at hs
  · rcases List.mem_or_eq_of_mem_set hs with h | rfl
    · exact A s h
    · rfl
  · rcases List.mem_append.1 hs with h | h
    · exact A s h
    · rw [List.mem_singleton.1 h]
theorem move_mem {h b : Int} {s : HSlot} (hs : s ∈ (T.move h b).2.l) : ∃ q ∈ T.l, q.is = s.is ∧ q.gen = s.gen := by
  unfold move at hs
  split at hs
  · exact ⟨s, hs, rfl, rfl⟩
  · split at hs
    · dsimp only at hs
      unfold setAddr at hs
      cases hk : T.l[(place h).toNat]? with
      | none => rw [hk] at hs; exact ⟨s, hs, rfl, rfl⟩
      | some q =>
        rw [hk] at hs
        rcases List.mem_or_eq_of_mem_set hs with h | rfl
        · exact ⟨s, h, rfl, rfl⟩
        · exact ⟨q, List.mem_of_getElem? hk, rfl, rfl⟩
    · exact ⟨s, hs, rfl, rfl⟩
theorem close_mem {h : Int} {s : HSlot} (hs : s ∈ (T.close h).2.l) : ∃ q ∈ T.l, q.gen = s.gen := by
  unfold close at hs
  split at hs
  · dsimp only at hs
    unfold shut at hs
    cases hk : T.l[(place h).toNat]? with
    | none => rw [hk] at hs; exact ⟨s, hs, rfl⟩
    | some q =>
      rw [hk] at hs
      rcases List.mem_or_eq_of_mem_set hs with h | rfl
      · exact ⟨s, h, rfl⟩
      · exact ⟨q, List.mem_of_getElem? hk, rfl⟩
  · exact ⟨s, hs, rfl⟩
theorem Gens.move {n : Nat} (G : T.Gens n) (h b : Int) : (T.move h b).2.Gens n := fun s hs => by
  obtain ⟨q, hq, _, e⟩ := move_mem hs
  rw [← e]; exact G q hq
theorem AllOpen.move (A : T.AllOpen) (h b : Int) : (T.move h b).2.AllOpen := fun s hs => by
  obtain ⟨q, hq, e, _⟩ := move_mem hs
  rw [← e]; exact A q hq
theorem Gens.close {n : Nat} (G : T.Gens n) (h : Int) : (T.close h).2.Gens n := fun s hs => by
  obtain ⟨q, hq, e⟩ := close_mem hs
  rw [← e]; exact G q hq
theorem Gens.new {m la : Int} (n : Nat) : (⟨m, la, []⟩ : HTbl).Gens n := fun s hs => by cases hs
theorem AllOpen.new {m la : Int} : (⟨m, la, []⟩ : HTbl).AllOpen := fun s hs => by cases hs
theorem move_most (h b : Int) : (T.move h b).2.most = T.most ∧ (T.move h b).2.last = T.last := by
  unfold move
  split
  · exact ⟨rfl, rfl⟩
  · split
    · dsimp only
      unfold setAddr
      cases T.l[(place h).toNat]? <;> exact ⟨rfl, rfl⟩
    · exact ⟨rfl, rfl⟩
theorem close_most (h : Int) : (T.close h).2.most = T.most ∧ (T.close h).2.last = T.last := by
  unfold close
  split
  · dsimp only
    unfold shut
    cases T.l[(place h).toNat]? <;> exact ⟨rfl, rfl⟩
  · exact ⟨rfl, rfl⟩
end HTbl

/-- What stays of a store, beside its records: its quota, how many slots and generations, none opened more often than there were records. -/
structure StK (S : Slb) (T : HTbl) (R : List Rc) (q m la : Int) : Prop where
  quo : S.quota = q
  most : T.most = m
  last : T.last = la
  gens : T.Gens R.length

section
variable {S S' : Slb} {T T' : HTbl} {H H' : List Ent} {R R' : List Rc} {q m la : Int}
theorem StK.new {q m la : Int} : StK (Slb.empty q) ⟨m, la, []⟩ [] q m la := ⟨rfl, rfl, rfl, HTbl.Gens.new _⟩
theorem StK.made {n hd er : Int} (K : StK S T R q m la) (M : Made S T H R n hd er S' T' H' R') : StK S' T' R' q m la := by
  have hq := M.quo
  cases M with
  | arg => exact K
  | quota => exact K
  | full => exact ⟨hq.trans K.quo, K.most, K.last, K.gens⟩
  | ok => exact ⟨hq.trans K.quo, K.most, K.last, by rw [List.length_append]; exact K.gens.openK _⟩
theorem StK.puts {hh k v er : Int} (K : StK S T R q m la) (P : Puts S T H R hh k v er S' R') : StK S' T R' q m la := by
  have hq := P.quo
  refine ⟨hq.1.trans K.quo, K.most, K.last, ?_⟩
  cases P with
  | stale => exact K.gens
  | arg => exact K.gens
  | ok => rw [List.length_set]; exact K.gens
theorem StK.drops {hh er : Int} (K : StK S T R q m la) (D : Drops S T H R hh er S' T' H' R') : StK S' T' R' q m la := by
  have hq := D.quo
  cases D with
  | stale => exact K
  | ok j r L S2 T2 H2 e _ ec F I =>
    have e2 : (T.close r.h).2 = T' := by rw [ec]
    subst e2
    exact ⟨hq.trans K.quo, (HTbl.close_most _).1.trans K.most, (HTbl.close_most _).2.trans K.last, by rw [List.length_set]; exact K.gens.close _⟩
theorem StK.slides {hh er : Int} {is : Bool} (K : StK S T R q m la) (D : Slides S T H R hh is er S' T' H' R') : StK S' T' R' q m la := by
  have hq := D.quo
  cases D with
  | stale => exact K
  | ok j r L tq S2 T2 H2 e le em D W I =>
    have e2 : (T.move r.h (tq : Int)).2 = T' := by rw [em]
    subst e2
    exact ⟨hq.trans K.quo, (HTbl.move_most _ _).1.trans K.most, (HTbl.move_most _ _).2.trans K.last, by rw [List.length_set]; exact K.gens.move _ _⟩

/-- With room and slots enough, Make makes. -/
theorem StInv.made_ok (I : StInv S T H R) (N : T.NoRet) {n : Int} (h0 : 0 ≤ n) (h1 : n ≤ 3998) (hl : ((liveR R).length : Int) < T.most) (hq : ((pgR R : Int) + Slb.pagesOf (n + 2)) * 64 ≤ S.quota) {hd er : Int} (M : Made S T H R n hd er S' T' H' R') : er = 0 := by
  have hp := I.pages_le
  have hf := N.full I.tok
  rw [I.live] at hf
  cases M <;> omega
theorem StInv.made_full (I : StInv S T H R) (N : T.NoRet) {n : Int} (h0 : 0 ≤ n) (h1 : n ≤ 3998) (hl : ((liveR R).length : Int) = T.most) (hq : ((pgR R : Int) + Slb.pagesOf (n + 2)) * 64 ≤ S.quota) {hd er : Int} (M : Made S T H R n hd er S' T' H' R') : er = 10 := by
  have hp := I.pages_le
  have hf := N.full I.tok
  rw [I.live] at hf
  cases M <;> omega
end
end Go.Proofs.YtpcomekikeoliaaGreatDoor
