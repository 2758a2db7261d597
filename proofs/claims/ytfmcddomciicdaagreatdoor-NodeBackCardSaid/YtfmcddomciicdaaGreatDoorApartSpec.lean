/- StoreApart's objects: a store, its handles, and for each record a row of words of its own. No program stands here but the types' numbers. No condition. -/
import Derived.Test.YtfmcddomciicdaaGreatDoorStoreAudit
import Derived.Test.YtfmcddomciicdaaGreatDoorTextWalk
set_option linter.unusedVariables false
set_option linter.unusedSimpArgs false
set_option maxRecDepth 100000
namespace Go.Proofs.YtfmcddomciicdaaGreatDoor
open Go Go.RowKit

theorem zipWith_set {α β γ : Type} (f : α → β → γ) {l : List α} {m : List β} (hl : l.length = m.length) (j : Nat) (a : α) (b : β) : (List.zipWith f l m).set j (f a b) = List.zipWith f (l.set j a) (m.set j b) := by
  apply List.ext_getElem?
  intro i
  rw [List.getElem?_set, List.getElem?_zipWith, List.getElem?_zipWith, List.getElem?_set, List.getElem?_set, List.length_zipWith, hl, Nat.min_self]
  by_cases e : j = i
  · subst e
    rw [if_pos rfl, if_pos rfl, if_pos rfl]
    by_cases hj : j < m.length
    · simp [hj]
    · simp [hj]
  · rw [if_neg e, if_neg e, if_neg e]

theorem lsame {α : Type} {l : List α} {i : Nat} {a : α} (h : l[i]? = some a) : l.set i a = l := by
  apply List.ext_getElem?
  intro k
  rw [List.getElem?_set]
  have := (List.getElem?_eq_some_iff.1 h).1
  by_cases e : i = k
  · subst e; rw [if_pos rfl, if_pos this, h]
  · rw [if_neg e]

/-- A record's own row of words: nothing once it is dropped. -/
def inn (v : Value) (r : Rc) : Res := u64Row v (if 0 ≤ r.a then r.w.length else 0) (if 0 ≤ r.a then r.w else [])
theorem inn_live {v : Value} {r : Rc} (h : 0 ≤ r.a) : inn v r = u64Row v r.w.length r.w := by unfold inn; rw [if_pos h, if_pos h]
theorem inn_gone {v : Value} {r : Rc} (h : ¬ 0 ≤ r.a) : inn v r = u64Row v 0 [] := by unfold inn; rw [if_neg h, if_neg h]
structure VOk (v : Value) (r : Rc) : Prop where
  live : 0 ≤ r.a → ∃ g, v = .slice (some ⟨g, 0, none⟩) r.w.length r.w.length
  gone : ¬ 0 ≤ r.a → v = .slice none 0 0
def hds (R : List Rc) : List Value := (R.map (·.h)).map (Value.int .u64)
theorem hds_set {R : List Rc} {j : Nat} {r r' : Rc} (hj : R[j]? = some r) (e : r'.h = r.h) : hds (R.set j r') = hds R := by
  unfold hds
  rw [List.map_set]
  congr 1
  apply lsame
  rw [List.getElem?_map, hj, e]
  rfl

abbrev APs (b : Nat) (m : Int) (S : Slb) (T : HTbl) (lv wv : Value) (n : Nat) (vs : List Value) (R : List Rc) : List Res :=
  stR b m 4294967295 S T :: rowAt 45 1 lv n (hds R) :: rowAt 100 1 wv n vs :: List.zipWith inn vs R

structure Ap (w wr : World) (b : Nat) (m : Int) (n : Nat) (lv wv : Value) (S : Slb) (T : HTbl) (H : List Ent) (R : List Rc) (vs : List Value) : Prop where
  inv : StInv S T H R
  len : R.length = n
  vlen : vs.length = n
  vok : ∀ (j : Nat) (v : Value) (r : Rc), vs[j]? = some v → R[j]? = some r → VOk v r
  sep : Sep No w wr (APs b m S T lv wv n vs R)

section
variable {w wr w2 : World} {b : Nat} {m : Int} {n : Nat} {lv wv : Value} {S S' : Slb} {T T' : HTbl} {H H' : List Ent} {R R' : List Rc} {vs : List Value}
theorem Ap.at_ (A : Ap w wr b m n lv wv S T H R vs) {j : Nat} (hj : j < n) : ∃ (r : Rc) (v : Value), R[j]? = some r ∧ vs[j]? = some v ∧ VOk v r ∧ (hds R)[j]? = some (.int .u64 r.h) ∧ (APs b m S T lv wv n vs R)[j + 3]? = some (inn v r) := by
  have h1 : R[j]? = some (R[j]'(by rw [A.len]; exact hj)) := List.getElem?_eq_getElem _
  have h2 : vs[j]? = some (vs[j]'(by rw [A.vlen]; exact hj)) := List.getElem?_eq_getElem _
  refine ⟨_, _, h1, h2, A.vok _ _ _ h2 h1, ?_, ?_⟩
  · unfold hds
    rw [List.getElem?_map, List.getElem?_map, h1]
    rfl
  · show (List.zipWith inn vs R)[j]? = _
    rw [List.getElem?_zipWith, h1, h2]
/-- The store turns alone: a record stays what it is, elsewhere perhaps. -/
theorem Ap.slide (A : Ap w wr b m n lv wv S T H R vs) {j : Nat} {r : Rc} (hj : R[j]? = some r) (h0 : 0 ≤ r.a) {a : Int} (ha : 0 ≤ a) (I : StInv S' T' H' (R.set j { r with a := a })) (h : Sep No w w2 ((APs b m S T lv wv n vs R).set 0 (stR b m 4294967295 S' T'))) :
    Ap w w2 b m n lv wv S' T' H' (R.set j { r with a := a }) vs := by
  have hjl : j < n := by rw [← A.len]; exact (List.getElem?_eq_some_iff.1 hj).1
  obtain ⟨r1, v, hr1, hv, ok, _, _⟩ := A.at_ hjl
  rw [hj] at hr1
  cases hr1
  have hz : List.zipWith inn vs (R.set j { r with a := a }) = List.zipWith inn vs R := by
    have e : inn v { r with a := a } = inn v r := by rw [inn_live (r := { r with a := a }) ha, inn_live h0]
    have h1 := zipWith_set inn (l := vs) (m := R) (by rw [A.len, A.vlen]) j v { r with a := a }
    rw [lsame hv, e] at h1
    rw [← h1]
    apply lsame
    rw [List.getElem?_zipWith, hv, hj]
  refine ⟨I, by rw [List.length_set]; exact A.len, A.vlen, fun i u q hu hq => ?_, ?_⟩
  · rw [List.getElem?_set] at hq
    by_cases e : j = i
    · subst e
      rw [if_pos rfl, if_pos (by rw [A.len]; exact hjl)] at hq
      cases hq
      rw [hv] at hu
      cases hu
      exact ⟨fun _ => ok.live h0, fun h => absurd ha h⟩
    · rw [if_neg e] at hq
      exact A.vok i u q hu hq
  · rw [APs, hz, hds_set (r' := { r with a := a }) hj rfl]
    exact h
/-- Nothing but the store's own. -/
theorem Ap.same (A : Ap w wr b m n lv wv S T H R vs) (I : StInv S' T' H' R) (h : Sep No w w2 ((APs b m S T lv wv n vs R).set 0 (stR b m 4294967295 S' T'))) : Ap w w2 b m n lv wv S' T' H' R vs :=
  ⟨I, A.len, A.vlen, A.vok, h⟩
theorem Ap.more (A : Ap w wr b m n lv wv S T H R vs) (hm : Mod No wr w2) : Ap w w2 b m n lv wv S T H R vs := ⟨A.inv, A.len, A.vlen, A.vok, A.sep.more hm⟩
/-- A word is put into a record and into its row. -/
theorem Ap.put (A : Ap w wr b m n lv wv S T H R vs) {j i : Nat} {r : Rc} {x : Int} (hj : R[j]? = some r) (h0 : 0 ≤ r.a) (hi : i < r.w.length) {g : Nat} (hv : vs[j]? = some (.slice (some ⟨g, 0, none⟩) r.w.length r.w.length)) (I : StInv S' T H (R.set j { r with w := r.w.set i x }))
    (h : Sep No w w2 ((APs b m S T lv wv n vs R).set 0 (stR b m 4294967295 S' T))) : Ap w (w2.setCell ⟨g, i, none⟩ (.int .u64 x)) b m n lv wv S' T H (R.set j { r with w := r.w.set i x }) vs := by
  have hjl : j < n := by rw [← A.len]; exact (List.getElem?_eq_some_iff.1 hj).1
  have hin : (APs b m S' T lv wv n vs R)[j + 3]? = some (rowAt 30 1 (.slice (some ⟨g, 0, none⟩) r.w.length r.w.length) r.w.length (r.w.map (Value.int .u64))) := by
    show (List.zipWith inn vs R)[j]? = _
    rw [List.getElem?_zipWith, hj, hv]
    exact congrArg some (inn_live h0)
  have h1 : Sep No w w2 (APs b m S' T lv wv n vs R) := h
  have h2 := h1.setItem (j + 3) hin i (.int .u64 x)
  refine ⟨I, by rw [List.length_set]; exact A.len, A.vlen, fun k u q hu hq => ?_, ?_⟩
  · rw [List.getElem?_set] at hq
    by_cases e : j = k
    · subst e
      rw [if_pos rfl, if_pos (by rw [A.len]; exact hjl)] at hq
      cases hq
      rw [hv] at hu
      cases hu
      exact ⟨fun _ => ⟨g, by rw [List.length_set]⟩, fun h => absurd h0 h⟩
    · rw [if_neg e] at hq
      exact A.vok k u q hu hq
  · have e : inn (.slice (some ⟨g, 0, none⟩) r.w.length r.w.length) { r with w := r.w.set i x } = rowAt 30 1 (.slice (some ⟨g, 0, none⟩) r.w.length r.w.length) r.w.length ((r.w.map (Value.int .u64)).set i (.int .u64 x)) := by
      rw [inn_live (r := { r with w := r.w.set i x }) h0, List.length_set, ← List.map_set]
    have hz := zipWith_set inn (l := vs) (m := R) (by rw [A.len, A.vlen]) j (.slice (some ⟨g, 0, none⟩) r.w.length r.w.length) { r with w := r.w.set i x }
    rw [lsame hv, e] at hz
    rw [APs, ← hz, hds_set (r' := { r with w := r.w.set i x }) hj rfl]
    exact h2
/-- A record more. -/
theorem Ap.made (A : Ap w wr b m n lv wv S T H R vs) {hd : Int} {a c g : Nat} {lv' wv' : Value} (I : StInv S' T' H' (R ++ [⟨hd, (a : Int), List.replicate c 0⟩]))
    (h : Sep No w w2 (stR b m 4294967295 S' T' :: rowAt 45 1 lv' (n + 1) (hds R ++ [.int .u64 hd]) :: rowAt 100 1 wv' (n + 1) (vs ++ [.slice (some ⟨g, 0, none⟩) c c]) :: (List.zipWith inn vs R ++ [rowAt 30 1 (.slice (some ⟨g, 0, none⟩) c c) c (List.replicate c (.int .u64 0))]))) :
    Ap w w2 b m (n + 1) lv' wv' S' T' H' (R ++ [⟨hd, (a : Int), List.replicate c 0⟩]) (vs ++ [.slice (some ⟨g, 0, none⟩) c c]) := by
  have ha : 0 ≤ (a : Int) := by omega
  refine ⟨I, by rw [List.length_append, A.len]; rfl, by rw [List.length_append, A.vlen]; rfl, fun k u q hu hq => ?_, ?_⟩
  · by_cases e : k < n
    · rw [List.getElem?_append_left (by rw [A.vlen]; exact e)] at hu
      rw [List.getElem?_append_left (by rw [A.len]; exact e)] at hq
      exact A.vok k u q hu hq
    · rw [List.getElem?_append_right (by rw [A.vlen]; omega), A.vlen] at hu
      rw [List.getElem?_append_right (by rw [A.len]; omega), A.len] at hq
      have hk : k - n = 0 := by
        have := (List.getElem?_eq_some_iff.1 hq).1
        simp at this
        omega
      rw [hk] at hu hq
      cases hu
      cases hq
      exact ⟨fun _ => ⟨g, by rw [List.length_replicate]⟩, fun h => absurd ha h⟩
  · have hz : List.zipWith inn (vs ++ [.slice (some ⟨g, 0, none⟩) c c]) (R ++ [(⟨hd, (a : Int), List.replicate c 0⟩ : Rc)]) = List.zipWith inn vs R ++ [rowAt 30 1 (.slice (some ⟨g, 0, none⟩) c c) c (List.replicate c (.int .u64 0))] := by
      rw [List.zipWith_append (by rw [A.len, A.vlen])]
      congr 1
      show [inn _ _] = _
      rw [inn_live (r := ⟨hd, (a : Int), List.replicate c 0⟩) ha]
      dsimp only
      unfold u64Row
      rw [List.length_replicate, List.map_replicate]
    have hh : hds (R ++ [(⟨hd, (a : Int), List.replicate c 0⟩ : Rc)]) = hds R ++ [.int .u64 hd] := by
      unfold hds
      rw [List.map_append, List.map_append]
      rfl
    rw [APs, hz, hh]
    exact h
/-- A record less: its row is forgotten. -/
theorem Ap.drop (A : Ap w wr b m n lv wv S T H R vs) {j : Nat} {r : Rc} (hj : R[j]? = some r) {g cap : Nat} (hwv : wv = .slice (some ⟨g, 0, none⟩) n cap) (I : StInv S' T' H' (R.set j { r with a := -1 }))
    (h : Sep No w w2 ((APs b m S T lv wv n vs R).set 0 (stR b m 4294967295 S' T'))) : Ap w (w2.setCell ⟨g, j, none⟩ (.slice none 0 0)) b m n lv wv S' T' H' (R.set j { r with a := -1 }) (vs.set j (.slice none 0 0)) := by
  have hjl : j < n := by rw [← A.len]; exact (List.getElem?_eq_some_iff.1 hj).1
  obtain ⟨r1, v, hr1, hv, ok, _, hin⟩ := A.at_ hjl
  rw [hj] at hr1
  cases hr1
  subst hwv
  have h1 : Sep No w w2 (APs b m S' T' (lv) (.slice (some ⟨g, 0, none⟩) n cap) n vs R) := h
  have h2 := h1.setItem 2 rfl j (.slice none 0 0)
  have hin2 : ((APs b m S' T' lv (.slice (some ⟨g, 0, none⟩) n cap) n vs R).set 2 (rowAt 100 1 (.slice (some ⟨g, 0, none⟩) n cap) n (vs.set j (.slice none 0 0))))[j + 3]? = some (inn v r) := hin
  obtain ⟨F, hP, hF, back⟩ := h2.at_ (j + 3) hin2
  have h3 := back (u64Row (.slice none 0 0) 0 []) _ (fun _ => False) ⟨World.ownsRow_nil .., by funext k; simp [Value.ownBlock]⟩ (Mod.refl _ _) (fun k hk => hk.elim)
  refine ⟨I, by rw [List.length_set]; exact A.len, by rw [List.length_set]; exact A.vlen, fun k u q hu hq => ?_, ?_⟩
  · rw [List.getElem?_set] at hq hu
    by_cases e : j = k
    · subst e
      rw [if_pos rfl, if_pos (by rw [A.len]; exact hjl)] at hq
      rw [if_pos rfl, if_pos (by rw [A.vlen]; exact hjl)] at hu
      cases hq
      cases hu
      exact ⟨fun h => absurd h (by show ¬ (0 : Int) ≤ -1; omega), fun _ => rfl⟩
    · rw [if_neg e] at hq hu
      exact A.vok k u q hu hq
  · have e : inn (.slice none 0 0) { r with a := -1 } = u64Row (.slice none 0 0) 0 [] := inn_gone (by show ¬ (0 : Int) ≤ -1; omega)
    have hz := zipWith_set inn (l := vs) (m := R) (by rw [A.len, A.vlen]) j (.slice none 0 0) { r with a := -1 }
    rw [e] at hz
    rw [APs, ← hz, hds_set (r' := { r with a := -1 }) hj rfl]
    exact h3
end
end Go.Proofs.YtfmcddomciicdaaGreatDoor
