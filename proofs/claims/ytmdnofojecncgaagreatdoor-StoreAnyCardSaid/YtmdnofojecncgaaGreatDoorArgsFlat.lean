/- How a law's arguments are read: structs whose fields are integers, bools, or such structs; slices of them. No condition. -/
import Derived.Test.YtmdnofojecncgaaGreatDoorArgs
set_option linter.unusedVariables false
set_option linter.unusedSimpArgs false
set_option maxRecDepth 100000
namespace Go.Proofs.YtmdnofojecncgaaGreatDoor
open Go Go.RowKit
open Go.ChangeShapes Go.WideShapes Go.Deep

/-- A type that lies flat in cells of these kinds (none: a bool). -/
inductive Flat (P : Program) : TypeId → List (Option IntKind) → Prop
  | int {t : TypeId} {k : IntKind} (h : P.underlying t = some (.int k)) : Flat P t [some k]
  | bool {t : TypeId} (h : P.underlying t = some .bool) : Flat P t [none]
  | struct {t : TypeId} {fs : Array Field} (kss : List (List (Option IntKind))) (h : P.underlying t = some (.struct fs)) (hC : P.cellsOf t = kss.flatten.length) (hl : kss.length = fs.size)
      (hf : ∀ (i : Nat) f ks, fs[i]? = some f → kss[i]? = some ks → P.cellsOf f.type = ks.length ∧ f.offset = (kss.take i).flatten.length)
      (hF : ∀ (i : Nat) f ks, fs[i]? = some f → kss[i]? = some ks → Flat P f.type ks) : Flat P t kss.flatten

section
variable {H : Type} {enc : TypeId × Value → H} {P : Program} {w : World} {base : Nat} {spare : Nat → Bool} {held : Bool}

def Kinds (ks : List (Option IntKind)) (r : List Int) : Prop := r.length = ks.length ∧ ∀ (j : Nat) k n, ks[j]? = some k → r[j]? = some n → fok k n
theorem Kinds.app {ks ls : List (Option IntKind)} {r s : List Int} (h : Kinds ks r) (k : Kinds ls s) : Kinds (ks ++ ls) (r ++ s) := by
  refine ⟨by simp [h.1, k.1], fun j q n h1 h2 => ?_⟩
  rw [List.getElem?_append] at h1 h2
  rw [h.1] at h2
  split at h1
  · rename_i hlt
    rw [if_pos hlt] at h2
    exact h.2 j q n h1 h2
  · rename_i hge
    rw [if_neg hge] at h2
    exact k.2 _ q n h1 h2

theorem flat_trod {t : TypeId} {ks : List (Option IntKind)} (hk : Flat P t ks) : ∀ {fuel : Nat} {cs : List Value} {y : DataW H × List MemPlace}, DataW.trod enc P w base spare held fuel t cs = some y → ∃ r : List Int, Kinds ks r ∧ cs = List.zipWith fv ks r := by
  induction hk with
  | int h =>
    intro fuel cs y hy
    obtain ⟨n, hv, _, hw⟩ := DataW.trod_int h hy
    exact ⟨[n], ⟨rfl, fun j k n' h1 h2 => by
      have : j = 0 := by have := (List.getElem?_eq_some_iff.1 h1).1; simp at this; omega
      subst this
      simp at h1 h2
      subst h1 h2
      exact hw⟩, hv⟩
  | bool h =>
    intro fuel cs y hy
    obtain ⟨b, hv, _⟩ := DataW.trod_bool h hy
    refine ⟨[if b then 1 else 0], ⟨rfl, fun j k n' h1 h2 => ?_⟩, by rw [hv]; cases b <;> rfl⟩
    have : j = 0 := by have := (List.getElem?_eq_some_iff.1 h1).1; simp at this; omega
    subst this
    simp at h1 h2
    subst h1 h2
    cases b
    · exact .inl rfl
    · exact .inr rfl
  | struct kss h hC hl hf hF ih =>
    rename_i t' fs
    intro fuel cs y hy
    obtain ⟨ys, n', _, _, hcl, hyl, hfd⟩ := DataW.trod_struct h hy
    have key : ∀ i, i ≤ kss.length → ∃ r : List Int, Kinds (kss.take i).flatten r ∧ cs.take (kss.take i).flatten.length = List.zipWith fv (kss.take i).flatten r := by
      intro i
      induction i with
      | zero => exact fun _ => ⟨[], ⟨rfl, fun j k n h1 h2 => by simp at h2⟩, by simp⟩
      | succ i ihi =>
        intro hi
        obtain ⟨r, hr1, hr2⟩ := ihi (by omega)
        have hki : kss[i]? = some (kss[i]'(by omega)) := List.getElem?_eq_getElem _
        have hfi : fs[i]? = some (fs[i]'(by omega)) := Array.getElem?_eq_getElem _
        obtain ⟨hc1, ho1⟩ := hf i _ _ hfi hki
        have h1 := hfd i _ hfi
        rw [ho1, hc1, List.getElem?_eq_getElem (by omega)] at h1
        obtain ⟨s, hs1, hs2⟩ := ih i _ _ hfi hki h1
        have e : (kss.take (i + 1)).flatten = (kss.take i).flatten ++ kss[i]'(by omega) := by
          rw [List.take_succ_eq_append_getElem (by omega), List.flatten_append]
          simp
        refine ⟨r ++ s, by rw [e]; exact hr1.app hs1, ?_⟩
        rw [e, List.length_append, List.take_add, hr2, hs2, List.zipWith_append hr1.1.symm]
    obtain ⟨r, hr1, hr2⟩ := key kss.length (Nat.le_refl _)
    rw [List.take_length] at hr1 hr2
    refine ⟨r, hr1, ?_⟩
    rw [← hr2, List.take_of_length_le (by rw [hcl, hC]; exact Nat.le_refl _)]

/-- A slice of flat structs. -/
theorem open_flats {t e : TypeId} {ks : List (Option IntKind)} {a : Option Addr} {len cap : Nat} {d : DataW H} {p : List MemPlace} (ht : P.underlying t = some (.slice e)) (hF : Flat P e ks) (hC : P.cellsOf e = ks.length) (hpos : 0 < ks.length)
    (h : DataW.Trod enc P w base spare held t (.slice a len cap) d p) : ∃ rs, Recs w a len ks rs := by
  obtain ⟨fuel, hf⟩ := h
  rcases open_slice ht hf with ⟨hcs, _⟩ | ⟨x, l, c, m, n, D, Pl, hcs, _, hl, hm, hmm, _, hi⟩
  · simp [Value.cells] at hcs
    obtain ⟨rfl, rfl, rfl⟩ := hcs
    exact ⟨[], recs_nil w _⟩
  · simp [Value.cells] at hcs
    obtain ⟨rfl, rfl, rfl⟩ := hcs
    have hml : len ≤ m := by rw [hmm]; split <;> omega
    refine recs_of hpos (by omega) fun i hil => ?_
    obtain ⟨cs', hc, ht'⟩ := hi i (by omega)
    rw [hC] at hc
    obtain ⟨r, hr1, hr2⟩ := flat_trod hF ht'
    obtain ⟨_, hcl, hat⟩ := World.cells?_some hc
    refine ⟨r, hr1.1, fun j k n h1 h2 => ⟨hr1.2 j k n h1 h2, ?_⟩⟩
    have hj := (List.getElem?_eq_some_iff.1 h1).1
    rw [← Go.Deep.add_add, hat j hj, hr2, List.getElem?_zipWith, h1, h2]

/-- A flat struct itself. -/
theorem open_flat {r : Reach} {b0 : Nat} {t : TypeId} {fs : Array Field} {ks : List (Option IntKind)} {v : Value} {d : DataW H} {p : List MemPlace} (ht : P.underlying t = some (.struct fs)) (hF : Flat P t ks)
    (hval : Value.okWide P w r b0 t v) (h : DataW.Trod enc P w base spare held t v d p) : ∃ xs : List Int, Kinds ks xs ∧ v = .agg (List.zipWith fv ks xs).toArray := by
  obtain ⟨cs, rfl, _⟩ := okWide_struct ht hval
  obtain ⟨fuel, hf⟩ := h
  obtain ⟨xs, hx, he⟩ := flat_trod hF hf
  refine ⟨xs, hx, ?_⟩
  have : Value.cells (.agg cs) = cs := by simp [Value.cells]
  rw [this] at he
  rw [← he]
end
end Go.Proofs.YtmdnofojecncgaaGreatDoor
