/- How a law's arguments are read: integers, slices of integers, slices of records of one-cell fields, slices of arrays. No condition. -/
import Derived.Test.YtfmkiioahnphbaaDoorGround
import Derived.ProofKit
import Derived.OpenShut
import Derived.Deep.Slices
import Derived.Deep.Fields
import Derived.ChangeSame
set_option linter.unusedVariables false
set_option linter.unusedSimpArgs false
set_option maxRecDepth 100000
namespace Go.Proofs.YtfmkiioahnphbaaDoor
open Go Go.RowKit
open Go.ChangeShapes Go.WideShapes Go.Deep

/-- A field's value: an integer of a kind, or a bool (1: true). -/
def fv : Option IntKind → Int → Value
  | some k, n => .int k n
  | none, n => .bool (n == 1)
def fok : Option IntKind → Int → Prop
  | some k, n => (Lit.int k n).wf = true
  | none, n => n = 0 ∨ n = 1

/-- What a slice of records that came in holds: row i is the list rs[i] of its fields, of the kinds ks. -/
structure Recs (w : World) (a : Option Addr) (len : Nat) (ks : List (Option IntKind)) (rs : List (List Int)) : Prop where
  count : rs.length = len
  max : len ≤ maxLen
  ok : ∀ r ∈ rs, r.length = ks.length ∧ ∀ (j : Nat) k n, ks[j]? = some k → r[j]? = some n → fok k n
  cells : 0 < len → ∃ b off, a = some ⟨b, off, none⟩ ∧ b < w.heap.size ∧ ∀ (i : Nat) r, rs[i]? = some r → ∀ (j : Nat) k n, ks[j]? = some k → r[j]? = some n → w.cell? ⟨b, off + i * ks.length + j, none⟩ = some (fv k n)

theorem Recs.below {w w' : World} {a : Option Addr} {len : Nat} {ks : List (Option IntKind)} {rs : List (List Int)} (h : Recs w a len ks rs) {S : Nat → Prop} (hm : Mod S w w') (hs : ∀ k, k < w.heap.size → ¬ S k) : Recs w' a len ks rs := by
  refine ⟨h.count, h.max, h.ok, fun hl => ?_⟩
  obtain ⟨b, off, e, hb, hc⟩ := h.cells hl
  exact ⟨b, off, e, Nat.lt_of_lt_of_le hb hm.size, fun i r hr j k n hk hn => hm.cell (hc i r hr j k n hk hn) (hs b hb)⟩

theorem addr_of {w : World} {x : Addr} {n : Nat} {v : Value} (h : w.cell? (x.add n) = some v) (hn : n = 0 → x.spot = none) : x.add n = ⟨x.block, x.off + n, none⟩ := by
  obtain ⟨b, o, s⟩ := x
  unfold Addr.add
  split
  · rename_i e; subst e; simp at hn; simp [hn]
  · rfl

section
variable {H : Type} {enc : TypeId × Value → H} {P : Program} {w : World} {base : Nat} {spare : Nat → Bool} {held : Bool}

theorem cell_lt {w : World} {x : Addr} {v : Value} (h : w.cell? x = some v) : x.block < w.heap.size := by
  rcases Nat.lt_or_ge x.block w.heap.size with h' | h'
  · exact h'
  · simp [World.cell?, Array.getElem?_eq_none h'] at h

/-- From a reading of a slice cell by cell to Recs. -/
theorem recs_of {w : World} {x : Addr} {len : Nat} {ks : List (Option IntKind)} (hk : 0 < ks.length) (hmax : len ≤ maxLen)
    (h : ∀ i, i < len → ∃ r : List Int, r.length = ks.length ∧ ∀ (j : Nat) k n, ks[j]? = some k → r[j]? = some n → fok k n ∧ w.cell? (x.add (i * ks.length + j)) = some (fv k n)) :
    ∃ rs, Recs w (some x) len ks rs := by
  have hall : ∀ m, m ≤ len → ∃ rs : List (List Int), rs.length = m ∧ ∀ i r, rs[i]? = some r → r.length = ks.length ∧ ∀ (j : Nat) k n, ks[j]? = some k → r[j]? = some n → fok k n ∧ w.cell? (x.add (i * ks.length + j)) = some (fv k n) := by
    intro m
    induction m with
    | zero => exact fun _ => ⟨[], rfl, by simp⟩
    | succ m ih =>
      intro hm
      obtain ⟨rs, hl, hr⟩ := ih (by omega)
      obtain ⟨r, hr1, hr2⟩ := h m (by omega)
      refine ⟨rs ++ [r], by simp [hl], fun i r' hi => ?_⟩
      rw [List.getElem?_append] at hi
      split at hi
      · exact hr i r' hi
      · rename_i hge
        have : i = m := by
          have := (List.getElem?_eq_some_iff.1 hi).1
          simp at this; omega
        subst this
        rw [hl, Nat.sub_self] at hi
        simp at hi
        subst hi
        exact ⟨hr1, hr2⟩
  obtain ⟨rs, hl, hr⟩ := hall len (Nat.le_refl _)
  refine ⟨rs, hl, hmax, fun r hm => ?_, fun hpos => ?_⟩
  · obtain ⟨i, hi⟩ := List.getElem?_of_mem hm
    exact ⟨(hr i r hi).1, fun j k n h1 h2 => ((hr i r hi).2 j k n h1 h2).1⟩
  · have hspot : x.spot = none ∧ x.block < w.heap.size := by
      obtain ⟨r, hr1⟩ : ∃ r, rs[0]? = some r := ⟨_, List.getElem?_eq_getElem (by omega)⟩
      obtain ⟨h1, h2⟩ := hr 0 r hr1
      obtain ⟨k, hk1⟩ : ∃ k, ks[0]? = some k := ⟨_, List.getElem?_eq_getElem hk⟩
      obtain ⟨n, hn1⟩ : ∃ n, r[0]? = some n := ⟨_, List.getElem?_eq_getElem (by omega)⟩
      have hc := (h2 0 k n hk1 hn1).2
      have e : x.add (0 * ks.length + 0) = x := by simp [Addr.add]
      rw [e] at hc
      exact ⟨World.cell?_spot hc, cell_lt hc⟩
    refine ⟨x.block, x.off, ?_, hspot.2, fun i r hi j k n h1 h2 => ?_⟩
    · obtain ⟨b, o, s⟩ := x; simp at hspot; simp [hspot.1]
    · have hc := ((hr i r hi).2 j k n h1 h2).2
      rw [addr_of hc (fun _ => hspot.1), ← Nat.add_assoc] at hc
      exact hc

theorem recs_nil (w : World) (ks : List (Option IntKind)) : Recs w none 0 ks [] := ⟨rfl, Nat.zero_le _, by simp, by omega⟩

/-- A slice of integers. -/
theorem open_ints_recs {k : IntKind} {t e : TypeId} {a : Option Addr} {len cap : Nat} {d : DataW H} {p : List MemPlace} (ht : P.underlying t = some (.slice e)) (he : P.underlying e = some (.int k)) (hC : P.cellsOf e = 1)
    (h : DataW.Trod enc P w base spare held t (.slice a len cap) d p) : ∃ rs, Recs w a len [some k] rs := by
  obtain ⟨fuel, hf⟩ := h
  rcases open_ints ht he hC hf with ⟨hcs, _⟩ | ⟨x, l, c, zs, hcs, _, hl, hm, hz, _, hcell, hwz⟩
  · simp [Value.cells] at hcs
    obtain ⟨rfl, rfl, rfl⟩ := hcs
    exact ⟨[], recs_nil w _⟩
  · simp [Value.cells] at hcs
    obtain ⟨rfl, rfl, rfl⟩ := hcs
    refine recs_of (by simp) (by omega) fun i hi => ⟨[zs.getD i 0], by simp, fun j k' n h1 h2 => ?_⟩
    have hj : j = 0 := by have := (List.getElem?_eq_some_iff.1 h1).1; simp at this; omega
    subst hj
    simp at h1 h2
    subst h1 h2
    have hil : i < zs.length := by rw [hz]; split <;> omega
    refine ⟨hwz _ ?_, ?_⟩
    · rw [List.getElem?_eq_getElem hil]; simp
    · have := hcell i hil
      simpa [fv] using this

/-- The type of a field of one cell. -/
def Kindly (P : Program) (t : TypeId) : Option IntKind → Prop
  | some k => P.underlying t = some (.int k)
  | none => P.underlying t = some .bool

theorem kindly_trod {t : TypeId} {k : Option IntKind} {fuel : Nat} {v : Value} {y : DataW H × List MemPlace} (hk : Kindly P t k) (h : DataW.trod enc P w base spare held fuel t [v] = some y) : ∃ n, v = fv k n ∧ fok k n := by
  cases k with
  | some k =>
    obtain ⟨n, hv, _, hw⟩ := DataW.trod_int hk h
    simp at hv
    exact ⟨n, hv, hw⟩
  | none =>
    obtain ⟨b, hv, _⟩ := DataW.trod_bool hk h
    simp at hv
    cases b with
    | true => exact ⟨1, hv, .inr rfl⟩
    | false => exact ⟨0, hv, .inl rfl⟩

/-- A slice of structs, each field of one cell. -/
theorem open_recs {t e : TypeId} {fs : Array Field} {ks : List (Option IntKind)} {a : Option Addr} {len cap : Nat} {d : DataW H} {p : List MemPlace} (ht : P.underlying t = some (.slice e)) (he : P.underlying e = some (.struct fs))
    (hone : oneCellFields P fs = true) (hC : P.cellsOf e = fs.size) (hks : ks.length = fs.size) (hpos : 0 < ks.length) (hkind : ∀ (j : Nat) f k, fs[j]? = some f → ks[j]? = some k → Kindly P f.type k)
    (h : DataW.Trod enc P w base spare held t (.slice a len cap) d p) : ∃ rs, Recs w a len ks rs := by
  obtain ⟨fuel, hf⟩ := h
  rcases open_slice ht hf with ⟨hcs, _⟩ | ⟨x, l, c, m, n, D, Pl, hcs, _, hl, hm, hmm, _, hi⟩
  · simp [Value.cells] at hcs
    obtain ⟨rfl, rfl, rfl⟩ := hcs
    exact ⟨[], recs_nil w _⟩
  · simp [Value.cells] at hcs
    obtain ⟨rfl, rfl, rfl⟩ := hcs
    have hml : len ≤ m := by rw [hmm]; split <;> omega
    refine recs_of hpos (by omega) fun i hil => ?_
    obtain ⟨cs', hc, ht'⟩ := hi i (by omega)
    rw [hC] at hc
    obtain ⟨ys, n', _, _, _, hyl, hfd⟩ := DataW.trod_struct he ht'
    obtain ⟨_, hcl, hat⟩ := World.cells?_some hc
    have each : ∀ j, j < fs.size → ∃ n : Int, ∀ k, ks[j]? = some k → fok k n ∧ w.cell? (x.add (i * ks.length + j)) = some (fv k n) := by
      intro j hj
      have hfj : fs[j]? = some fs[j] := Array.getElem?_eq_getElem hj
      obtain ⟨ho, hk0⟩ := hone_of hone j _ hfj
      have hv : cs'[j]? = some (cs'[j]'(by omega)) := List.getElem?_eq_getElem (by omega)
      have h1 := hfd j _ hfj
      rw [ho, hk0] at h1
      have hone' : (cs'.drop j).take 1 = [cs'[j]'(by omega)] := by
        rw [List.drop_eq_getElem_cons (by omega)]; rfl
      rw [hone'] at h1
      have hys : ys[j]? = some (ys[j]'(by omega)) := List.getElem?_eq_getElem (by omega)
      obtain ⟨k, hk⟩ : ∃ k, ks[j]? = some k := ⟨_, List.getElem?_eq_getElem (by omega)⟩
      obtain ⟨nn, hn1, hn2⟩ := kindly_trod (hkind j _ k hfj hk) (h1.trans hys)
      refine ⟨nn, fun k' hk' => ?_⟩
      rw [hk] at hk'
      simp only [Option.some.injEq] at hk'
      subst hk'
      refine ⟨hn2, ?_⟩
      rw [hks, ← Go.Deep.add_add, hat j hj, hv, hn1]
    have hrow : ∀ m, m ≤ fs.size → ∃ r : List Int, r.length = m ∧ ∀ (j : Nat) k n, ks[j]? = some k → r[j]? = some n → fok k n ∧ w.cell? (x.add (i * ks.length + j)) = some (fv k n) := by
      intro m
      induction m with
      | zero => exact fun _ => ⟨[], rfl, by simp⟩
      | succ m ih =>
        intro hm
        obtain ⟨r, hl, hr⟩ := ih (by omega)
        obtain ⟨n, hn⟩ := each m (by omega)
        refine ⟨r ++ [n], by simp [hl], fun j k n' h1 h2 => ?_⟩
        rw [List.getElem?_append] at h2
        split at h2
        · exact hr j k n' h1 h2
        · have : j = m := by
            have := (List.getElem?_eq_some_iff.1 h2).1
            simp at this; omega
          subst this
          rw [hl, Nat.sub_self] at h2
          simp at h2
          subst h2
          exact hn k h1
    obtain ⟨r, hr1, hr2⟩ := hrow fs.size (Nat.le_refl _)
    exact ⟨r, by omega, hr2⟩
end
end Go.Proofs.YtfmkiioahnphbaaDoor
