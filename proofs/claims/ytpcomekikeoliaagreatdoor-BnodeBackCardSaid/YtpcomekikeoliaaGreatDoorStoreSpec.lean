/- The plain law of package store: records in an arena, named by a table. No program stands here. No condition. -/
import Derived.Test.YtpcomekikeoliaaGreatDoorHeapPure
import Derived.Test.YtpcomekikeoliaaGreatDoorHandleOnceSpec
set_option linter.unusedVariables false
set_option linter.unusedSimpArgs false
set_option maxRecDepth 100000
namespace Go.Proofs.YtpcomekikeoliaaGreatDoor
open Go

/-- A record: its handle, its address (-1: it was dropped), its words. -/
structure Rc where
  h : Int
  a : Int
  w : List Int

/-- The records that are there. -/
abbrev liveR (R : List Rc) : List Rc := R.filter fun r => decide (0 ≤ r.a)
/-- A record's block. -/
abbrev rblk (r : Rc) : Nat × Nat := (r.a.toNat, Slb.roomOf ((r.w.length : Int) + 2))

namespace HTbl
def opens (T : HTbl) : Nat := T.l.countP fun s => s.is == 1
theorem liveTo_count (T : HTbl) : ∀ j, j ≤ T.l.length → (T.liveTo j).length = (T.l.take j).countP fun s => s.is == 1
  | 0, _ => by simp [liveTo]
  | j + 1, h => by
    have hj : j < T.l.length := h
    rw [liveTo, List.length_append, liveTo_count T j (by omega), List.getElem?_eq_getElem hj, List.take_succ_eq_append_getElem hj, List.countP_append, List.countP_singleton]
    dsimp only
    by_cases c : T.l[j].is = 1
    · rw [if_pos c, if_pos (by simp [c])]; rfl
    · rw [if_neg c, if_neg (by simp [c])]; rfl
theorem live_count (T : HTbl) : T.live.length = T.opens := by
  unfold live opens
  rw [liveTo_count T _ (Nat.le_refl _), List.take_length]

theorem countP_swap {l : List HSlot} {k : Nat} {s s' : HSlot} (h : l[k]? = some s) (p : HSlot → Bool) : (l.set k s').countP p + (if p s then 1 else 0) = l.countP p + (if p s' then 1 else 0) := by
  induction l generalizing k with
  | nil => simp at h
  | cons x l ih =>
    cases k with
    | zero =>
      simp only [List.getElem?_cons_zero, Option.some.injEq] at h
      subst h
      rw [List.set_cons_zero, List.countP_cons, List.countP_cons]
      omega
    | succ k =>
      rw [List.set_cons_succ, List.countP_cons, List.countP_cons]
      have := ih (k := k) (by simpa using h)
      omega

theorem opens_open {T T' : HTbl} {a h : Int} (r : T.open' a = (h, 0, T')) : T'.opens = T.opens + 1 := by
  obtain ⟨_, hf, _, rfl⟩ := open_ok_cases r
  show ((T.openK a).l.countP _) = _
  have hle : T.free ≤ T.l.length := freeIn_le T.l
  show ((if T.free < T.l.length then T.l.set T.free ⟨1, T.genAt T.free + 1, a⟩ else T.l ++ [⟨1, T.genAt T.free + 1, a⟩]).countP _) = _
  by_cases c : T.free < T.l.length
  · rw [if_pos c]
    have hs : T.l[T.free]? = some (T.l[T.free]) := List.getElem?_eq_getElem c
    have hi := freeIn_at T.l _ hs
    have := countP_swap (s' := ⟨1, T.genAt T.free + 1, a⟩) hs fun s => s.is == 1
    rw [if_neg (by simp [hi]), if_pos (by simp)] at this
    exact this
  · rw [if_neg c, List.countP_append, List.countP_singleton, if_pos (by simp)]
    rfl
theorem opens_move (T : HTbl) (h b : Int) : (T.move h b).2.opens = T.opens := by
  unfold move
  split
  · rfl
  · split
    · show (T.setAddr (place h).toNat b).opens = _
      unfold setAddr
      cases hs : T.l[(place h).toNat]? with
      | none => rfl
      | some s =>
        have := countP_swap (s' := { s with addr := b }) hs fun s => s.is == 1
        dsimp only at this
        show (T.l.set (place h).toNat { s with addr := b }).countP _ = _
        exact Nat.add_right_cancel this
    · rfl
theorem opens_close {T : HTbl} {h : Int} (hk : T.okB h = true) : (T.close h).1 = 0 ∧ (T.close h).2.opens + 1 = T.opens := by
  unfold close
  rw [if_pos hk]
  refine ⟨rfl, ?_⟩
  obtain ⟨_, s, hs, h1, _⟩ := okB_place hk
  show (T.shut (place h).toNat).opens + 1 = _
  unfold shut
  rw [hs]
  dsimp only
  obtain ⟨z, hz, hz1⟩ : ∃ z : Int, (if s.gen = T.last then 2 else 0) = z ∧ z ≠ 1 := ⟨_, rfl, by split <;> omega⟩
  rw [hz]
  have := countP_swap (s' := { s with is := z }) hs fun s => s.is == 1
  dsimp only at this
  rw [if_pos (show (s.is == 1) = true by simp [h1]), if_neg (show ¬ (z == 1) = true by simpa using hz1)] at this
  exact this
end HTbl

namespace Slb
variable {S S' : Slb} {H H' : List Ent}
/-- A word of a block. -/
theorem Rep.rdB (R : Rep S H) {b : Nat × Nat} (hb : b ∈ blks H) {i : Nat} (hi : i < b.2) : S.read ((b.1 + i : Nat) : Int) = (S.wd (b.1 + i), 0) := by
  have hp := R.blk_page hb (a := b.1 + i) (by omega)
  rw [read_in (err_page hp.1 hp.2.1)]
  rfl
theorem Rep.wrB (R : Rep S H) {b : Nat × Nat} (hb : b ∈ blks H) {i : Nat} (hi : i < b.2) {v : Int} (v0 : 0 ≤ v) (v1 : v < 18446744073709551616) :
    S.write ((b.1 + i : Nat) : Int) v = (0, S.wds fun x => if x = b.1 + i then v else S.wd x) ∧ Rep (S.wds fun x => if x = b.1 + i then v else S.wd x) H := by
  have hp := R.blk_page hb (a := b.1 + i) (by omega)
  refine ⟨?_, R.wordsB hb (fun x => ?_) (fun x hx => if_neg (by omega))⟩
  · rw [write_page hp.1 hp.2.1]
  · split
    · omega
    · exact R.ok.words x
end Slb

/-- A record's words lie in its block. -/
abbrev RcAt (S : Slb) (r : Rc) : Prop := r.w.length ≤ 3998 ∧ S.wd r.a.toNat = r.h ∧ S.wd (r.a.toNat + 1) = (r.w.length : Int) ∧ ∀ k x, r.w[k]? = some x → S.wd (r.a.toNat + 2 + k) = x

/-- What is so of a store whose records, in the order in which they were made, are R. -/
structure StInv (S : Slb) (T : HTbl) (H : List Ent) (R : List Rc) : Prop where
  rep : Slb.Rep S H
  tok : T.Ok
  once : HTbl.OnceInv T (R.map (·.h)) (R.map (·.a))
  perm : (blks H).Perm ((liveR R).map rblk)
  words : ∀ r ∈ R, 0 ≤ r.a → RcAt S r
  live : T.opens = (liveR R).length

namespace StInv
variable {S : Slb} {T : HTbl} {H : List Ent} {R : List Rc}

theorem mem (I : StInv S T H R) {r : Rc} (hr : r ∈ R) (h0 : 0 ≤ r.a) : rblk r ∈ blks H := I.perm.mem_iff.2 (List.mem_map.2 ⟨r, List.mem_filter.2 ⟨hr, by simpa using h0⟩, rfl⟩)

theorem room {n : Nat} (h : n ≤ 3998) : n + 2 ≤ Slb.roomOf ((n : Int) + 2) := by have := Slb.le_roomOf (n := (n : Int) + 2) (by omega); omega

theorem at_eq (I : StInv S T H R) {j : Nat} {r : Rc} (hj : R[j]? = some r) : T.at' r.h = if 0 ≤ r.a then (r.a, 0) else (0, 7) :=
  I.once.at_eq (n := j) (by simp [hj]) (by simp [hj])
theorem rng (I : StInv S T H R) {j : Nat} {r : Rc} (hj : R[j]? = some r) : 0 ≤ r.h ∧ r.h < 18446744073709551616 ∧ -1 ≤ r.a := by
  obtain ⟨s, _, _, h0, h1, _, _, _, _, h2⟩ := I.once.each j r.h r.a (by simp [hj]) (by simp [hj])
  exact ⟨h0, h1, h2⟩
theorem adr (I : StInv S T H R) {r : Rc} (hr : r ∈ R) (h0 : 0 ≤ r.a) : 2 ≤ r.a ∧ r.a + r.w.length + 2 ≤ 67108864 ∧ ((r.a.toNat : Nat) : Int) = r.a := by
  have h1 := I.rep.blk_range (I.mem hr h0)
  have h2 := room (I.words r hr h0).1
  dsimp only at h1
  omega

/-- A record's length is read. -/
theorem len_eq (I : StInv S T H R) {r : Rc} (hr : r ∈ R) (h0 : 0 ≤ r.a) : S.read (r.a + 1) = ((r.w.length : Int), 0) := by
  have h2 := room (I.words r hr h0).1
  have h3 := (I.adr hr h0).2.2
  have := I.rep.rdB (I.mem hr h0) (i := 1) (by dsimp only; omega)
  dsimp only at this
  rw [show ((r.a.toNat + 1 : Nat) : Int) = r.a + 1 by omega] at this
  rw [this, (I.words r hr h0).2.2.1]
theorem get_eq (I : StInv S T H R) {r : Rc} (hr : r ∈ R) (h0 : 0 ≤ r.a) {k : Nat} {x : Int} (hk : r.w[k]? = some x) : S.read (r.a + 2 + (k : Int)) = (x, 0) := by
  have h2 := room (I.words r hr h0).1
  have h3 := (I.adr hr h0).2.2
  have hl := (List.getElem?_eq_some_iff.1 hk).1
  have := I.rep.rdB (I.mem hr h0) (i := 2 + k) (by dsimp only; omega)
  dsimp only at this
  rw [show ((r.a.toNat + (2 + k) : Nat) : Int) = r.a + 2 + (k : Int) by omega] at this
  rw [this, show r.a.toNat + (2 + k) = r.a.toNat + 2 + k by omega, (I.words r hr h0).2.2.2 k x hk]

/-- Two records that are there have nothing in common. -/
theorem far (I : StInv S T H R) {i j : Nat} {r q : Rc} (hi : R[i]? = some r) (hj : R[j]? = some q) (hij : i ≠ j) (hr : 0 ≤ r.a) (hq : 0 ≤ q.a) : rblk r ≠ rblk q := fun e => by
  have hnd := (I.perm.nodup_iff.1 (Slb.nodup_blks I.rep))
  have key : ∀ (L : List Rc) (i j : Nat) (r q : Rc), ((liveR L).map rblk).Nodup → L[i]? = some r → L[j]? = some q → i < j → 0 ≤ r.a → 0 ≤ q.a → rblk r ≠ rblk q := by
    intro L
    induction L with
    | nil => intro i j r q _ h; simp at h
    | cons x L ih =>
      intro i j r q hn h1 h2 hlt h3 h4 e
      cases j with
      | zero => omega
      | succ j =>
        cases i with
        | zero =>
          simp only [List.getElem?_cons_zero, Option.some.injEq] at h1
          subst h1
          have hx : liveR (x :: L) = x :: liveR L := List.filter_cons_of_pos (by simpa using h3)
          rw [hx, List.map_cons, List.nodup_cons] at hn
          exact hn.1 (e ▸ List.mem_map.2 ⟨q, List.mem_filter.2 ⟨List.mem_of_getElem? (by simpa using h2), by simpa using h4⟩, rfl⟩)
        | succ i =>
          refine ih i j r q ?_ (by simpa using h1) (by simpa using h2) (by omega) h3 h4 e
          by_cases c : 0 ≤ x.a
          · have hx : liveR (x :: L) = x :: liveR L := List.filter_cons_of_pos (by simpa using c)
            rw [hx, List.map_cons, List.nodup_cons] at hn
            exact hn.2
          · have hx : liveR (x :: L) = liveR L := List.filter_cons_of_neg (by simpa using c)
            rw [hx] at hn
            exact hn
  rcases Nat.lt_or_gt_of_ne hij with h | h
  · exact key R i j r q hnd hi hj h hr hq e
  · exact key R j i q r hnd hj hi h hq hr e.symm

theorem liveR_split {L : List Rc} {j : Nat} {r : Rc} (h : L[j]? = some r) (h0 : 0 ≤ r.a) : liveR L = liveR (L.take j) ++ r :: liveR (L.drop (j + 1)) ∧ ∀ r', 0 ≤ r'.a → liveR (L.set j r') = liveR (L.take j) ++ r' :: liveR (L.drop (j + 1)) := by
  have hj := (List.getElem?_eq_some_iff.1 h).1
  have e : L[j] = r := by rw [List.getElem?_eq_getElem hj] at h; exact Option.some.inj h
  have hL : L = L.take j ++ r :: L.drop (j + 1) := by rw [← e, ← List.drop_eq_getElem_cons hj, List.take_append_drop]
  refine ⟨?_, fun r' h' => ?_⟩
  · conv => lhs; rw [hL]
    unfold liveR
    rw [List.filter_append, List.filter_cons_of_pos (by simpa using h0)]
  · rw [List.set_eq_take_append_cons_drop, if_pos hj]
    unfold liveR
    rw [List.filter_append, List.filter_cons_of_pos (by simpa using h')]
theorem liveR_drop {L : List Rc} {j : Nat} {r' : Rc} (hj : j < L.length) (h' : ¬ 0 ≤ r'.a) : liveR (L.set j r') = liveR (L.take j) ++ liveR (L.drop (j + 1)) := by
  rw [List.set_eq_take_append_cons_drop, if_pos hj]
  unfold liveR
  rw [List.filter_append, List.filter_cons_of_neg (by simpa using h')]

theorem map_set' {α β : Type} (f : α → β) (L : List α) (j : Nat) (x : α) : (L.set j x).map f = (L.map f).set j (f x) := by rw [List.map_set]
theorem set_self {α : Type} {L : List α} {j : Nat} {x : α} (h : L[j]? = some x) : L.set j x = L := by
  apply List.ext_getElem?
  intro i
  rw [List.getElem?_set]
  by_cases e : j = i
  · subst e
    rw [if_pos rfl, if_pos (List.getElem?_eq_some_iff.1 h).1, h]
  · rw [if_neg e]

/-- A word is put. -/
theorem put (I : StInv S T H R) {j k : Nat} {r : Rc} (hj : R[j]? = some r) (h0 : 0 ≤ r.a) (hk : k < r.w.length) {v : Int} (v0 : 0 ≤ v) (v1 : v < 18446744073709551616) :
    ∃ S', S.write (r.a + 2 + (k : Int)) v = (0, S') ∧ S'.pg = S.pg ∧ S'.quota = S.quota ∧ StInv S' T H (R.set j { r with w := r.w.set k v }) := by
  have hr := List.mem_of_getElem? hj
  have h2 := room (I.words r hr h0).1
  have h3 := (I.adr hr h0).2.2
  obtain ⟨e, R'⟩ := I.rep.wrB (I.mem hr h0) (i := 2 + k) (by dsimp only; omega) v0 v1
  dsimp only at e R'
  rw [show ((r.a.toNat + (2 + k) : Nat) : Int) = r.a + 2 + (k : Int) by omega] at e
  have hlen : (R.set j { r with w := r.w.set k v }).map (·.a) = R.map (·.a) := by
    rw [List.map_set]
    exact set_self (by simp [hj])
  have hlh : (R.set j { r with w := r.w.set k v }).map (·.h) = R.map (·.h) := by
    rw [List.map_set]
    exact set_self (by simp [hj])
  obtain ⟨s1, s2⟩ := liveR_split hj h0
  have s2 := s2 { r with w := r.w.set k v } h0
  refine ⟨_, e, rfl, rfl, R', I.tok, by rw [hlen, hlh]; exact I.once, ?_, fun q hq q0 => ?_, ?_⟩
  · have hp := I.perm
    rw [s1, List.map_append, List.map_cons] at hp
    rw [s2, List.map_append, List.map_cons]
    have : rblk { r with w := r.w.set k v } = rblk r := by unfold rblk; dsimp only; rw [List.length_set]
    rw [this]
    exact hp
  · obtain ⟨i, hi, hqi⟩ := List.getElem_of_mem hq
    have hqi : (R.set j { r with w := r.w.set k v })[i]? = some q := by rw [List.getElem?_eq_getElem hi, hqi]
    rw [List.getElem?_set] at hqi
    by_cases c : j = i
    · subst c
      rw [if_pos rfl, if_pos (List.getElem?_eq_some_iff.1 hj).1] at hqi
      cases hqi
      obtain ⟨w1, w2, w3, w4⟩ := I.words r hr h0
      have hl : (r.w.set k v).length = r.w.length := List.length_set
      refine ⟨by show (r.w.set k v).length ≤ 3998; omega, ?_, ?_, fun i x hx => ?_⟩
      · show (if r.a.toNat = r.a.toNat + (2 + k) then v else _) = _
        rw [if_neg (by omega), w2]
      · show (if r.a.toNat + 1 = r.a.toNat + (2 + k) then v else _) = (((r.w.set k v).length : Nat) : Int)
        rw [if_neg (by omega), w3, hl]
      · show (if r.a.toNat + 2 + i = r.a.toNat + (2 + k) then v else _) = _
        rw [List.getElem?_set] at hx
        by_cases e2 : k = i
        · subst e2
          rw [if_pos rfl, if_pos hk] at hx
          rw [if_pos (by omega)]
          exact Option.some.inj hx
        · rw [if_neg e2] at hx
          rw [if_neg (by omega)]
          exact w4 i x hx
    · rw [if_neg c] at hqi
      have hqm := List.mem_of_getElem? hqi
      obtain ⟨w1, w2, w3, w4⟩ := I.words q hqm q0
      have hfar := I.far hqi hj (fun e => c e.symm) q0 h0
      have hro := room w1
      have key : ∀ x, x < r.w.length + 2 → ∀ y, y < q.w.length + 2 → q.a.toNat + y ≠ r.a.toNat + x := fun x hx y hy e => hfar (I.rep.apart (a := q.a.toNat + y) (I.mem hqm q0) (I.mem hr h0) (by dsimp only; omega) (by dsimp only; omega))
      refine ⟨w1, ?_, ?_, fun i x hx => ?_⟩
      · show (if q.a.toNat = r.a.toNat + (2 + k) then v else _) = _
        rw [if_neg (by have := key (2 + k) (by omega) 0 (by omega); omega), w2]
      · show (if q.a.toNat + 1 = r.a.toNat + (2 + k) then v else _) = _
        rw [if_neg (by have := key (2 + k) (by omega) 1 (by omega); omega), w3]
      · have hil := (List.getElem?_eq_some_iff.1 hx).1
        show (if q.a.toNat + 2 + i = r.a.toNat + (2 + k) then v else _) = _
        rw [if_neg (by have := key (2 + k) (by omega) (2 + i) (by omega); omega), w4 i x hx]
  · rw [I.live, s1, s2]
    simp
end StInv
end Go.Proofs.YtpcomekikeoliaaGreatDoor
