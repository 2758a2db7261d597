/- BlobBack: what stands while texts are put, dropped, brought elsewhere. No program stands here. No condition. -/
import Derived.Test.YtfmcddomciicdaaGreatDoorCompactA
import Derived.Test.YtfmcddomciicdaaGreatDoorBlobDrop
set_option linter.unusedVariables false
set_option linter.unusedSimpArgs false
set_option maxRecDepth 100000
namespace Go.Proofs.YtfmcddomciicdaaGreatDoor
open Go

/-- Texts, and the handles that were told of them; which are gone. -/
structure BB (ss : List ByteArray) (R : List Rc) (hv : List Int) (gs : Nat → Bool) : Prop where
  each : ∀ (k : Nat) (x : Int), hv[k]? = some x → ∃ s, ss[k]? = some s ∧ ((1000 < s.size ∧ x = 0) ∨ (s.size ≤ 1000 ∧ x ≠ 0 ∧ ∃ (j : Nat) (r : Rc), R[j]? = some r ∧ r.h = x ∧ r.w = Txt.tw s ∧ (0 ≤ r.a ↔ gs k = false)))
  once : ∀ (k k' : Nat) (x : Int), hv[k]? = some x → hv[k']? = some x → x ≠ 0 → k = k'
  uniq : ∀ (j j' : Nat) (r r' : Rc), R[j]? = some r → R[j']? = some r' → r.h = r'.h → j = j'

section
variable {ss : List ByteArray} {R R' : List Rc} {hv : List Int} {gs : Nat → Bool}
theorem BB.nil (ss : List ByteArray) (gs : Nat → Bool) : BB ss [] [] gs := ⟨fun k x h => by simp at h, fun k k' x h => by simp at h, fun j j' r r' h => by simp at h⟩
theorem BB.moved (B : BB ss R hv gs) (M : Moved R R') : BB ss R' hv gs := by
  refine ⟨fun k x h => ?_, B.once, fun j j' r r' hj hj' e => by
    obtain ⟨q, hq, e1, _⟩ := M.at_ hj
    obtain ⟨q', hq', e2, _⟩ := M.at_ hj'
    exact B.uniq j j' q q' hq hq' (by rw [← e1, ← e2, e])⟩
  obtain ⟨s, hs, h1 | ⟨h1, h0, j, r, hj, hh, hw, ha⟩⟩ := B.each k x h
  · exact ⟨s, hs, .inl h1⟩
  · obtain ⟨a, h2, h3⟩ := M.2 j r hj
    exact ⟨s, hs, .inr ⟨h1, h0, j, _, h2, hh, hw, h3.trans ha⟩⟩
theorem snoc_get {α : Type} {l : List α} {a x : α} {k : Nat} (h : (l ++ [a])[k]? = some x) : l[k]? = some x ∨ (k = l.length ∧ x = a) := by
  by_cases hk : k < l.length
  · rw [List.getElem?_append_left hk] at h
    exact .inl h
  · rw [List.getElem?_append_right (by omega)] at h
    have : k - l.length = 0 := by
      have := (List.getElem?_eq_some_iff.1 h).1
      simp at this
      omega
    rw [this] at h
    cases h
    exact .inr ⟨by omega, rfl⟩
theorem BB.long (B : BB ss R hv gs) {s : ByteArray} (hs : ss[hv.length]? = some s) (hl : 1000 < s.size) : BB ss R (hv ++ [0]) gs := by
  refine ⟨fun k x h => ?_, fun k k' x h h' h0 => ?_, B.uniq⟩
  · rcases snoc_get h with h | ⟨rfl, rfl⟩
    · exact B.each k x h
    · exact ⟨s, hs, .inl ⟨hl, rfl⟩⟩
  · rcases snoc_get h with h | ⟨rfl, rfl⟩
    · rcases snoc_get h' with h' | ⟨rfl, rfl⟩
      · exact B.once k k' x h h' h0
      · exact absurd rfl h0
    · exact absurd rfl h0
theorem BB.put (B : BB ss R hv gs) {s : ByteArray} (hs : ss[hv.length]? = some s) (hl : s.size ≤ 1000) {hd : Int} {a : Nat} (h0 : hd ≠ 0) (hne : ∀ q ∈ R, q.h ≠ hd) (hg : gs hv.length = false) : BB ss (R ++ [⟨hd, (a : Int), Txt.tw s⟩]) (hv ++ [hd]) gs := by
  have fresh : ∀ k x, hv[k]? = some x → x ≠ hd := fun k x h e => by
    obtain ⟨s', _, ⟨_, h1⟩ | ⟨_, _, j, r, hj, hh, _⟩⟩ := B.each k x h
    · exact h0 (e.symm.trans h1)
    · exact hne r (List.mem_of_getElem? hj) (hh.trans e)
  refine ⟨fun k x h => ?_, fun k k' x h h' hx => ?_, fun j j' r r' hj hj' e => by
    rcases snoc_get hj with hj | ⟨rfl, rfl⟩
    · rcases snoc_get hj' with hj' | ⟨rfl, rfl⟩
      · exact B.uniq j j' r r' hj hj' e
      · exact absurd e (hne r (List.mem_of_getElem? hj))
    · rcases snoc_get hj' with hj' | ⟨rfl, _⟩
      · exact absurd e.symm (hne r' (List.mem_of_getElem? hj'))
      · rfl⟩
  · rcases snoc_get h with h | ⟨rfl, rfl⟩
    · obtain ⟨s', hs', h1 | ⟨h1, h2, j, r, hj, h3⟩⟩ := B.each k x h
      · exact ⟨s', hs', .inl h1⟩
      · exact ⟨s', hs', .inr ⟨h1, h2, j, r, by rw [List.getElem?_append_left (List.getElem?_eq_some_iff.1 hj).1]; exact hj, h3⟩⟩
    · exact ⟨s, hs, .inr ⟨hl, h0, R.length, _, by rw [List.getElem?_append_right (Nat.le_refl _), Nat.sub_self]; rfl, rfl, rfl, ⟨fun _ => hg, fun _ => Int.natCast_nonneg a⟩⟩⟩
  · rcases snoc_get h with h1 | ⟨e1, e2⟩
    · rcases snoc_get h' with h2 | ⟨e3, e4⟩
      · exact B.once k k' x h1 h2 hx
      · exact absurd e4 (fresh k _ h1)
    · rcases snoc_get h' with h2 | ⟨e3, _⟩
      · exact absurd e2 (fresh k' _ h2)
      · rw [e1, e3]
/-- One is gone. -/
theorem BB.drop (B : BB ss R hv gs) {k : Nat} {x : Int} (hk : hv[k]? = some x) {j : Nat} {r : Rc} (hj : R[j]? = some r) (hx : r.h = x) (h0 : x ≠ 0) : BB ss (R.set j { r with a := -1 }) hv (fun i => if i = k then true else gs i) := by
  have same : ∀ (i : Nat) (q : Rc), (R.set j { r with a := -1 })[i]? = some q → ∃ q', R[i]? = some q' ∧ q'.h = q.h := fun i q hi => by
    rw [List.getElem?_set] at hi
    by_cases e : j = i
    · subst e
      rw [if_pos rfl, if_pos (List.getElem?_eq_some_iff.1 hj).1] at hi
      cases hi
      exact ⟨r, hj, rfl⟩
    · rw [if_neg e] at hi
      exact ⟨q, hi, rfl⟩
  refine ⟨fun i y hi => ?_, B.once, fun i i' q q' hi hi' e => by
    obtain ⟨p, h1, e1⟩ := same i q hi
    obtain ⟨p', h2, e2⟩ := same i' q' hi'
    exact B.uniq i i' p p' h1 h2 (by rw [e1, e2, e])⟩
  obtain ⟨s, hs, h1 | ⟨h1, h2, j', r', hj', hh, hw, ha⟩⟩ := B.each i y hi
  · exact ⟨s, hs, .inl h1⟩
  · by_cases e : j = j'
    · subst e
      rw [hj] at hj'
      cases hj'
      have hik : i = k := B.once i k y hi (by rw [hk, ← hx, hh]) h2
      subst hik
      refine ⟨s, hs, .inr ⟨h1, h2, j, { r with a := -1 }, by rw [List.getElem?_set, if_pos rfl, if_pos (List.getElem?_eq_some_iff.1 hj).1], hh, hw, ?_⟩⟩
      rw [if_pos rfl]
      exact ⟨fun h => absurd h (by show ¬ (0 : Int) ≤ -1; omega), fun h => by cases h⟩
    · have hik : i ≠ k := fun e2 => by
        subst e2
        rw [hk] at hi
        cases hi
        exact e (B.uniq j j' r r' hj hj' (by rw [hx, hh]))
      refine ⟨s, hs, .inr ⟨h1, h2, j', r', by rw [List.getElem?_set, if_neg e]; exact hj', hh, hw, ?_⟩⟩
      rw [if_neg hik]
      exact ha
/-- A long one is none. -/
theorem BB.none (B : BB ss R hv gs) {k : Nat} (hk : hv[k]? = some 0) : BB ss R hv (fun i => if i = k then true else gs i) := by
  refine ⟨fun i y hi => ?_, B.once, B.uniq⟩
  obtain ⟨s, hs, h1 | ⟨h1, h2, j', r', hj', hh, hw, ha⟩⟩ := B.each i y hi
  · exact ⟨s, hs, .inl h1⟩
  · have hik : i ≠ k := fun e2 => by
      subst e2
      rw [hk] at hi
      cases hi
      exact h2 rfl
    exact ⟨s, hs, .inr ⟨h1, h2, j', r', hj', hh, hw, by rw [if_neg hik]; exact ha⟩⟩
/-- One that is gone is gone. -/
theorem BB.again (B : BB ss R hv gs) {k : Nat} (hk : gs k = true) : BB ss R hv (fun i => if i = k then true else gs i) := by
  have : (fun i => if i = k then true else gs i) = gs := by
    funext i
    by_cases e : i = k
    · rw [if_pos e, e, hk]
    · rw [if_neg e]
  rw [this]
  exact B
end
end Go.Proofs.YtfmcddomciicdaaGreatDoor
