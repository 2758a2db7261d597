/- A slice of arrays of integers that came in. No condition. -/
import Derived.Test.YtbcecgbnnpbjbaaArgs
namespace Go.Proofs.Ytbcecgbnnpbjbaa
open Go Go.RowKit
open Go.ChangeShapes Go.WideShapes Go.Deep

section
variable {H : Type} {enc : TypeId × Value → H} {P : Program} {w : World} {base : Nat} {spare : Nat → Bool} {held : Bool}

/-- A slice of arrays of m integers of one kind. -/
theorem open_arrs {m : Nat} {t e i : TypeId} {kd : IntKind} {a : Option Addr} {len cap : Nat} {d : DataW H} {p : List MemPlace} (ht : P.underlying t = some (.slice e)) (he : P.underlying e = some (.array m i)) (hi : P.underlying i = some (.int kd))
    (hC1 : P.cellsOf i = 1) (hC : P.cellsOf e = m) (hpos : 0 < m) (h : DataW.Trod enc P w base spare held t (.slice a len cap) d p) : ∃ rs, Recs w a len (List.replicate m (some kd)) rs := by
  obtain ⟨fuel, hf⟩ := h
  rcases open_slice ht hf with ⟨hcs, _⟩ | ⟨x, l, c, q, n, D, Pl, hcs, _, hl, hm, hmm, _, hi'⟩
  · simp [Value.cells] at hcs
    obtain ⟨rfl, rfl, rfl⟩ := hcs
    exact ⟨[], recs_nil w _⟩
  · simp [Value.cells] at hcs
    obtain ⟨rfl, rfl, rfl⟩ := hcs
    have hml : len ≤ q := by rw [hmm]; split <;> omega
    refine recs_of (by simpa using hpos) (by omega) fun j hjl => ?_
    obtain ⟨cs', hc, ht'⟩ := hi' j (by omega)
    rw [hC] at hc
    obtain ⟨ys, n', _, _, _, hyl, hfd⟩ := DataW.trod_array he ht'
    obtain ⟨_, hcl, hat⟩ := World.cells?_some hc
    simp only [List.length_replicate]
    have each : ∀ z, z < m → ∃ n : Int, fok (some kd) n ∧ w.cell? (x.add (j * m + z)) = some (fv (some kd) n) := by
      intro z hz
      have hv : cs'[z]? = some (cs'[z]'(by omega)) := List.getElem?_eq_getElem (by omega)
      have h1 := hfd z hz
      rw [hC1, Nat.mul_one] at h1
      have hone' : (cs'.drop z).take 1 = [cs'[z]'(by omega)] := by
        rw [List.drop_eq_getElem_cons (by omega)]; rfl
      rw [hone'] at h1
      have hys : ys[z]? = some (ys[z]'(by omega)) := List.getElem?_eq_getElem (by omega)
      obtain ⟨nn, hn1, hn2⟩ := kindly_trod (k := some kd) hi (h1.trans hys)
      exact ⟨nn, hn2, by rw [← Go.Deep.add_add, hat z hz, hv, hn1]⟩
    have hrow : ∀ u, u ≤ m → ∃ r : List Int, r.length = u ∧ ∀ (z : Nat) n, r[z]? = some n → fok (some kd) n ∧ w.cell? (x.add (j * m + z)) = some (fv (some kd) n) := by
      intro u
      induction u with
      | zero => exact fun _ => ⟨[], rfl, by simp⟩
      | succ u ih =>
        intro hu
        obtain ⟨r, hl, hr⟩ := ih (by omega)
        obtain ⟨n, hn⟩ := each u (by omega)
        refine ⟨r ++ [n], by simp [hl], fun z n' h2 => ?_⟩
        rw [List.getElem?_append] at h2
        split at h2
        · exact hr z n' h2
        · have : z = u := by
            have := (List.getElem?_eq_some_iff.1 h2).1
            simp at this; omega
          subst this
          rw [hl, Nat.sub_self] at h2
          simp at h2
          subst h2
          exact hn
    obtain ⟨r, hr1, hr2⟩ := hrow m (Nat.le_refl _)
    refine ⟨r, hr1, fun z k n h1 h2 => ?_⟩
    have hk : k = some kd := by
      rw [List.getElem?_replicate] at h1
      split at h1 <;> simp_all
    subst hk
    exact hr2 z n h2
end
end Go.Proofs.Ytbcecgbnnpbjbaa
