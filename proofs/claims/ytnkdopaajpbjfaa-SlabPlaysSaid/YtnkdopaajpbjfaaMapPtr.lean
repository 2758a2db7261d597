/- Maps from ints to pointers, as lists of keys and the blocks that they lead to. No condition. -/
import Derived.Test.YtnkdopaajpbjfaaSep
import Derived.Maps.OwnSet
import Derived.Lib.SlKeysI
namespace Go.Proofs.Ytnkdopaajpbjfaa
open Go Go.RowKit
open Go.Maps (Keyed Tidy)

/-- How a pointer to a block's head reads. -/
def ptrElem : Value → Option (DataW Unit × List MemPlace)
  | .pointer (some ⟨b, 0, none⟩) => some (.lit (.int .i64 b), [])
  | .pointer none => some (.nil, [])
  | _ => none

theorem ptrElem_some (b : Nat) : ptrElem (.pointer (some ⟨b, 0, none⟩)) = some (.lit (.int .i64 b), []) := rfl
theorem ptrElem_inv {v : Value} {b : Nat} {ps : List MemPlace} (h : ptrElem v = some (.lit (.int .i64 b), ps)) : v = .pointer (some ⟨b, 0, none⟩) := by
  unfold ptrElem at h
  split at h
  · simp at h
    have : _ = b := Int.ofNat.inj h.1
    rw [this]
  · simp at h
  · simp at h
theorem ptrElem_nil {v : Value} {ps : List MemPlace} (h : ptrElem v = some (.nil, ps)) : v = .pointer none := by
  unfold ptrElem at h
  split at h
  · simp at h
  · rfl
  · simp at h

def keyL (k : Nat) : Lit := .int .i64 (k : Int)
theorem keyL_inj {k j : Nat} (h : keyL k = keyL j) : k = j := by simp [keyL] at h; omega
theorem keyL_same (k : Nat) (n : Int) : (keyL k).sameKey (.int .i64 n) = decide ((k : Int) = n) := by simp [keyL, Lit.sameKey]
def entL (p : Nat → Nat) (k : Nat) : Lit × DataW Unit := (keyL k, .lit (.int .i64 (p k)))

/-- A map's datum: the keys L, each with its block. -/
def MapIs (D : DataW Unit) (L : List Nat) (p : Nat → Nat) : Prop := ∃ es, D = .map es ∧ es.Perm (L.map (entL p))

theorem MapIs.nil (p : Nat → Nat) : MapIs (.map []) [] p := ⟨[], rfl, List.Perm.refl _⟩
theorem MapIs.perm {D : DataW Unit} {L L' : List Nat} {p : Nat → Nat} (h : MapIs D L p) (hp : L.Perm L') : MapIs D L' p := by
  obtain ⟨es, rfl, h⟩ := h
  exact ⟨es, rfl, h.trans (hp.map _)⟩
theorem MapIs.size {D : DataW Unit} {L : List Nat} {p : Nat → Nat} (h : MapIs D L p) : Maps.size D = L.length := by
  obtain ⟨es, rfl, h⟩ := h
  simpa [Maps.size] using h.length_eq
theorem MapIs.keys {D : DataW Unit} {L : List Nat} {p : Nat → Nat} (h : MapIs D L p) : (Go.intKeys D).Perm (L.map fun k : Nat => (k : Int)) := by
  obtain ⟨es, rfl, h⟩ := h
  have := h.map (fun q : Lit × DataW Unit => Go.intOf q.1)
  rw [List.map_map] at this
  exact this

theorem MapIs.hit {D : DataW Unit} {L : List Nat} {p : Nat → Nat} (h : MapIs D L p) {k : Nat} (hk : k ∈ L) (z : DataW Unit) : D.atKey (keyL k) z = .lit (.int .i64 (p k)) := by
  obtain ⟨es, rfl, h⟩ := h
  have hm : entL p k ∈ es := h.mem_iff.2 (List.mem_map_of_mem hk)
  simp only [DataW.atKey]
  cases hf : es.find? (fun q => q.1.sameKey (keyL k)) with
  | none =>
    have := List.find?_eq_none.1 hf _ hm
    simp [entL, keyL, Lit.sameKey] at this
  | some q =>
    have h1 := List.find?_some hf
    obtain ⟨j, hj, hq⟩ := List.mem_map.1 (h.mem_iff.1 (List.mem_of_find?_eq_some hf))
    subst hq
    simp [entL, keyL, Lit.sameKey] at h1
    obtain rfl : j = k := by omega
    rfl

theorem MapIs.miss {D : DataW Unit} {L : List Nat} {p : Nat → Nat} (h : MapIs D L p) {n : Int} (hn : ∀ k ∈ L, (k : Int) ≠ n) (z : DataW Unit) : D.atKey (.int .i64 n) z = z := by
  obtain ⟨es, rfl, h⟩ := h
  simp only [DataW.atKey]
  have : es.find? (fun q => q.1.sameKey (.int .i64 n)) = none := by
    refine List.find?_eq_none.2 fun q hq => ?_
    obtain ⟨j, hj, rfl⟩ := List.mem_map.1 (h.mem_iff.1 hq)
    simp only [entL, keyL_same]
    simpa using hn j hj
  rw [this]

theorem filter_all {α : Type} {f : α → Bool} {l : List α} (h : ∀ x ∈ l, f x = true) : l.filter f = l := List.filter_eq_self.2 h

theorem MapIs.put {D : DataW Unit} {L : List Nat} {p : Nat → Nat} (h : MapIs D L p) {k b : Nat} (hk : k ∉ L) : MapIs (D.put (keyL k) (.lit (.int .i64 b))) (k :: L) (fun j => if j = k then b else p j) := by
  obtain ⟨es, rfl, h⟩ := h
  refine ⟨_, rfl, (WideShapes.insert_perm _ _).trans ?_⟩
  have hf : es.filter (fun q => !q.1.sameKey (keyL k)) = es := filter_all fun q hq => by
    obtain ⟨j, hj, rfl⟩ := List.mem_map.1 (h.mem_iff.1 hq)
    have : (j : Int) ≠ (k : Int) := fun e => hk (by have : j = k := by omega
                                                    rw [← this]; exact hj)
    simp only [entL]
    rw [show keyL k = Lit.int .i64 (k : Int) from rfl, keyL_same]
    simpa using this
  rw [hf, List.map_cons]
  have e1 : entL (fun j => if j = k then b else p j) k = (keyL k, .lit (.int .i64 b)) := by simp [entL]
  rw [e1]
  refine List.Perm.cons _ (h.trans ?_)
  have e2 : L.map (entL p) = L.map (entL fun j => if j = k then b else p j) := List.map_congr_left fun j hj => by
    have : j ≠ k := fun e => hk (e ▸ hj)
    simp [entL, this]
  rw [e2]

theorem MapIs.del {D : DataW Unit} {L : List Nat} {p : Nat → Nat} (h : MapIs D L p) (k : Nat) : MapIs (D.del (keyL k)) (L.filter (fun j => j != k)) p := by
  obtain ⟨es, rfl, h⟩ := h
  refine ⟨_, rfl, ?_⟩
  have h1 := h.filter (fun q : Lit × DataW Unit => !q.1.sameKey (keyL k))
  refine h1.trans ?_
  rw [List.filter_map]
  have e : L.filter ((fun q : Lit × DataW Unit => !q.1.sameKey (keyL k)) ∘ entL p) = L.filter (fun j => j != k) := by
    apply List.filter_congr
    intro j _
    simp only [Function.comp, entL]
    rw [show keyL k = Lit.int .i64 (k : Int) from rfl, keyL_same]
    by_cases hjk : j = k
    · subst hjk; simp
    · have : (j : Int) ≠ (k : Int) := by omega
      simp [hjk, this]
  rw [e]

/-- As tight a bound as there is. -/
theorem ownsMap_tight {P : Program} {w : World} {K b n : Nat} {D : DataW Unit} (h : w.ownsMap P K ptrElem b n D) : w.ownsMap P K ptrElem b (Maps.size D) D := by
  obtain ⟨es, clock, hb, F, _, rfl⟩ := h
  refine ⟨es, clock, hb, F, ?_, rfl⟩
  simp [Maps.size, length_sorted]

theorem ownsMap_heap {P : Program} {w w' : World} {K b n : Nat} {D : DataW Unit} (h : w.ownsMap P K ptrElem b n D) (hb : w'.heap[b]? = w.heap[b]?) : w'.ownsMap P K ptrElem b n D := by
  obtain ⟨es, clock, hb', r⟩ := h
  exact ⟨es, clock, hb.trans hb', r⟩

/-- A map in block b. -/
def mapAt (P : Program) (K b : Nat) (L : List Nat) (p : Nat → Nat) : Res where
  P w F := (∃ D, w.ownsMap P K ptrElem b L.length D ∧ MapIs D L p) ∧ F = fun k => k = b
  keep := fun ⟨⟨D, h, hi⟩, hF⟩ hk => ⟨⟨D, ownsMap_heap h (hk b (by rw [hF])), hi⟩, hF⟩
  lt := fun ⟨⟨D, h, hi⟩, hF⟩ k hk => by rw [hF] at hk; subst hk; exact h.lt

theorem wf_i64_of {n : Int} (h0 : -9223372036854775808 ≤ n) (h1 : n ≤ 9223372036854775807) : (Lit.int .i64 n).wf = true := WalkArith.wf_i64 ⟨h0, h1⟩
end Go.Proofs.Ytnkdopaajpbjfaa
