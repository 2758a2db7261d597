/- How a law's arguments are read: structs whose fields are integers, bools, or such structs; slices of them. No condition. | How a law's arguments are read: structs of three slices of words and a word; slices of strings. No condition. -/
import Derived.Test.YtpcomekikeoliaaGreatDoorArgs
import Derived.ChangeMaps5
set_option linter.unusedVariables false
set_option linter.unusedSimpArgs false
set_option maxRecDepth 100000
namespace Go.Proofs.YtpcomekikeoliaaGreatDoor
open Go Go.RowKit
open Go.ChangeShapes Go.WideShapes Go.Deep

/-- A type that lies flat in cells of these kinds (none: a bool). -/
inductive Flat (P : Program) : TypeId → List (Option IntKind) → Prop
  | int {t : TypeId} {k : IntKind} (h : P.underlying t = some (.int k)) : Flat P t [some k]
  | bool {t : TypeId} (h : P.underlying t = some .bool) : Flat P t [none]
  | struct {t : TypeId} {fs : Array Field} (kss : List (List (Option IntKind))) (h : P.underlying t = some (.struct fs)) (hC : P.cellsOf t = kss.flatten.length) (hl : kss.length = fs.size)
      (hf : ∀ (i : Nat) f ks, fs[i]? = some f → kss[i]? = some ks → P.cellsOf f.type = ks.length ∧ f.offset = (kss.take i).flatten.length)
      (hF : ∀ (i : Nat) f ks, fs[i]? = some f → kss[i]? = some ks → Flat P f.type ks) : Flat P t kss.flatten

section
variable {H : Type} {enc : TypeId × Value → H} {P : Program} {w : World} {base : Nat} {spare : Nat → Bool} {held : Bool}

def Kinds (ks : List (Option IntKind)) (r : List Int) : Prop := r.length = ks.length ∧ ∀ (j : Nat) k n, ks[j]? = some k → r[j]? = some n → fok k n
theorem Kinds.app {ks ls : List (Option IntKind)} {r s : List Int} (h : Kinds ks r) (k : Kinds ls s) : Kinds (ks ++ ls) (r ++ s) := by
  refine ⟨by simp [h.1, k.1], fun j q n h1 h2 => ?_⟩
  rw [List.getElem?_append] at h1 h2
  rw [h.1] at h2
  split at h1
  · rename_i hlt
    rw [if_pos hlt] at h2
    exact h.2 j q n h1 h2
  · rename_i hge
    rw [if_neg hge] at h2
    exact k.2 _ q n h1 h2

theorem flat_trod {t : TypeId} {ks : List (Option IntKind)} (hk : Flat P t ks) : ∀ {fuel : Nat} {cs : List Value} {y : DataW H × List MemPlace}, DataW.trod enc P w base spare held fuel t cs = some y → ∃ r : List Int, Kinds ks r ∧ cs = List.zipWith fv ks r := by
  induction hk with
  | int h =>
    intro fuel cs y hy
    obtain ⟨n, hv, _, hw⟩ := DataW.trod_int h hy
    exact ⟨[n], ⟨rfl, fun j k n' h1 h2 => by
      have : j = 0 := by have := (List.getElem?_eq_some_iff.1 h1).1; simp at this; omega
      subst this
      simp at h1 h2
      subst h1 h2
      exact hw⟩, hv⟩
  | bool h =>
    intro fuel cs y hy
    obtain ⟨b, hv, _⟩ := DataW.trod_bool h hy
    refine ⟨[if b then 1 else 0], ⟨rfl, fun j k n' h1 h2 => ?_⟩, by rw [hv]; cases b <;> rfl⟩
    have : j = 0 := by have := (List.getElem?_eq_some_iff.1 h1).1; simp at this; omega
    subst this
    simp at h1 h2
    subst h1 h2
    cases b
    · exact .inl rfl
    · exact .inr rfl
  | struct kss h hC hl hf hF ih =>
    rename_i t' fs
    intro fuel cs y hy
    obtain ⟨ys, n', _, _, hcl, hyl, hfd⟩ := DataW.trod_struct h hy
    have key : ∀ i, i ≤ kss.length → ∃ r : List Int, Kinds (kss.take i).flatten r ∧ cs.take (kss.take i).flatten.length = List.zipWith fv (kss.take i).flatten r := by
      intro i
      induction i with
      | zero => exact fun _ => ⟨[], ⟨rfl, fun j k n h1 h2 => by simp at h2⟩, by simp⟩
      | succ i ihi =>
        intro hi
        obtain ⟨r, hr1, hr2⟩ := ihi (by omega)
        have hki : kss[i]? = some (kss[i]'(by omega)) := List.getElem?_eq_getElem _
        have hfi : fs[i]? = some (fs[i]'(by omega)) := Array.getElem?_eq_getElem _
        obtain ⟨hc1, ho1⟩ := hf i _ _ hfi hki
        have h1 := hfd i _ hfi
        rw [ho1, hc1, List.getElem?_eq_getElem (by omega)] at h1
        obtain ⟨s, hs1, hs2⟩ := ih i _ _ hfi hki h1
        have e : (kss.take (i + 1)).flatten = (kss.take i).flatten ++ kss[i]'(by omega) := by
          rw [List.take_succ_eq_append_getElem (by omega), List.flatten_append]
          simp
        refine ⟨r ++ s, by rw [e]; exact hr1.app hs1, ?_⟩
        rw [e, List.length_append, List.take_add, hr2, hs2, List.zipWith_append hr1.1.symm]
    obtain ⟨r, hr1, hr2⟩ := key kss.length (Nat.le_refl _)
    rw [List.take_length] at hr1 hr2
    refine ⟨r, hr1, ?_⟩
    rw [← hr2, List.take_of_length_le (by rw [hcl, hC]; exact Nat.le_refl _)]

/-- A slice of flat structs. -/
theorem open_flats {t e : TypeId} {ks : List (Option IntKind)} {a : Option Addr} {len cap : Nat} {d : DataW H} {p : List MemPlace} (ht : P.underlying t = some (.slice e)) (hF : Flat P e ks) (hC : P.cellsOf e = ks.length) (hpos : 0 < ks.length)
    (h : DataW.Trod enc P w base spare held t (.slice a len cap) d p) : ∃ rs, Recs w a len ks rs := by
  obtain ⟨fuel, hf⟩ := h
  rcases open_slice ht hf with ⟨hcs, _⟩ | ⟨x, l, c, m, n, D, Pl, hcs, _, hl, hm, hmm, _, hi⟩
  · simp [Value.cells] at hcs
    obtain ⟨rfl, rfl, rfl⟩ := hcs
    exact ⟨[], recs_nil w _⟩
  · simp [Value.cells] at hcs
    obtain ⟨rfl, rfl, rfl⟩ := hcs
    have hml : len ≤ m := by rw [hmm]; split <;> omega
    refine recs_of hpos (by omega) fun i hil => ?_
    obtain ⟨cs', hc, ht'⟩ := hi i (by omega)
    rw [hC] at hc
    obtain ⟨r, hr1, hr2⟩ := flat_trod hF ht'
    obtain ⟨_, hcl, hat⟩ := World.cells?_some hc
    refine ⟨r, hr1.1, fun j k n h1 h2 => ⟨hr1.2 j k n h1 h2, ?_⟩⟩
    have hj := (List.getElem?_eq_some_iff.1 h1).1
    rw [← Go.Deep.add_add, hat j hj, hr2, List.getElem?_zipWith, h1, h2]

/-- A flat struct itself. -/
theorem open_flat {r : Reach} {b0 : Nat} {t : TypeId} {fs : Array Field} {ks : List (Option IntKind)} {v : Value} {d : DataW H} {p : List MemPlace} (ht : P.underlying t = some (.struct fs)) (hF : Flat P t ks)
    (hval : Value.okWide P w r b0 t v) (h : DataW.Trod enc P w base spare held t v d p) : ∃ xs : List Int, Kinds ks xs ∧ v = .agg (List.zipWith fv ks xs).toArray := by
  obtain ⟨cs, rfl, _⟩ := okWide_struct ht hval
  obtain ⟨fuel, hf⟩ := h
  obtain ⟨xs, hx, he⟩ := flat_trod hF hf
  refine ⟨xs, hx, ?_⟩
  have : Value.cells (.agg cs) = cs := by simp [Value.cells]
  rw [this] at he
  rw [← he]
end
end Go.Proofs.YtpcomekikeoliaaGreatDoor

namespace Go.Proofs.YtpcomekikeoliaaGreatDoor
open Go Go.RowKit
open Go.ChangeShapes Go.WideShapes Go.Deep

section
variable {H : Type} {enc : TypeId × Value → H} {P : Program} {w : World} {base : Nat} {spare : Nat → Bool} {held : Bool}

theorem open_words1 {tl te : TypeId} {fuel : Nat} {x : Value} {y : DataW H × List MemPlace} (hl : P.underlying tl = some (.slice te)) (he : P.underlying te = some (.int .u64)) (hCe : P.cellsOf te = 1)
    (h : DataW.trod enc P w base spare held fuel tl [x] = some y) : ∃ (s : Option Addr) (l c : Nat) (z : List (List Int)), x = .slice s l c ∧ Recs w s l [some .u64] z := by
  have key : ∀ (s : Option Addr) (l c : Nat), x = .slice s l c → ∃ z, Recs w s l [some .u64] z := fun s l c e => by
    subst e
    exact open_ints_recs (enc := enc) (P := P) (base := base) (spare := spare) (held := held) (d := y.1) (p := y.2) hl he hCe ⟨fuel, by simpa [Value.cells] using h⟩
  rcases open_slice hl h with ⟨hcs, _⟩ | ⟨a, l, c, m, n, D, Pl, hcs, _⟩
  · simp only [List.cons.injEq, and_true] at hcs
    obtain ⟨z, hz⟩ := key _ _ _ hcs
    exact ⟨_, _, _, z, hcs, hz⟩
  · simp only [List.cons.injEq, and_true] at hcs
    obtain ⟨z, hz⟩ := key _ _ _ hcs
    exact ⟨_, _, _, z, hcs, hz⟩

/-- A struct of three slices of words and a word, as a list of cells. -/
theorem open_node4 {t tl te tu : TypeId} {fs : Array Field} {fuel : Nat} {cs : List Value} {y : DataW H × List MemPlace}
    (ht : P.underlying t = some (.struct fs)) (hsz : fs.size = 4) (hC : P.cellsOf t = 4) (hf : ∀ (i : Nat) f, fs[i]? = some f → f.offset = i ∧ f.type = (if i = 3 then tu else tl))
    (hl : P.underlying tl = some (.slice te)) (he : P.underlying te = some (.int .u64)) (hu : P.underlying tu = some (.int .u64)) (hCl : P.cellsOf tl = 1) (hCu : P.cellsOf tu = 1) (hCe : P.cellsOf te = 1)
    (h : DataW.trod enc P w base spare held fuel t cs = some y) :
    ∃ (s0 : Option Addr) (l0 c0 : Nat) (z0 : List (List Int)) (s1 : Option Addr) (l1 c1 : Nat) (z1 : List (List Int)) (s2 : Option Addr) (l2 c2 : Nat) (z2 : List (List Int)) (n : Int),
      cs = [.slice s0 l0 c0, .slice s1 l1 c1, .slice s2 l2 c2, .int .u64 n] ∧ Recs w s0 l0 [some .u64] z0 ∧ Recs w s1 l1 [some .u64] z1 ∧ Recs w s2 l2 [some .u64] z2 ∧ (Lit.int .u64 n).wf = true := by
  obtain ⟨ys, n', _, _, hln, hyl, hfd⟩ := DataW.trod_struct ht h
  rw [hC] at hln
  match cs, hln with
  | [x0, x1, x2, x3], _ =>
  have hg : ∀ i (hi : i < 4), ∃ f y, fs[i]? = some f ∧ ys[i]? = some y ∧ f.offset = i ∧ f.type = (if i = 3 then tu else tl) := fun i hi => by
    have h1 : fs[i]? = some (fs[i]'(by omega)) := Array.getElem?_eq_getElem _
    have h2 : ys[i]? = some (ys[i]'(by omega)) := List.getElem?_eq_getElem _
    exact ⟨_, _, h1, h2, hf i _ h1⟩
  obtain ⟨f0, y0, a0, b0, o0, k0⟩ := hg 0 (by omega)
  obtain ⟨f1, y1, a1, b1, o1, k1⟩ := hg 1 (by omega)
  obtain ⟨f2, y2, a2, b2, o2, k2⟩ := hg 2 (by omega)
  obtain ⟨f3, y3, a3, b3, o3, k3⟩ := hg 3 (by omega)
  rw [if_neg (by omega)] at k0 k1 k2
  rw [if_pos rfl] at k3
  have h0 := hfd 0 f0 a0
  have h1 := hfd 1 f1 a1
  have h2 := hfd 2 f2 a2
  have h3 := hfd 3 f3 a3
  rw [b0, o0, k0, hCl] at h0
  rw [b1, o1, k1, hCl] at h1
  rw [b2, o2, k2, hCl] at h2
  rw [b3, o3, k3, hCu] at h3
  have h0 : DataW.trod enc P w base spare held n' tl [x0] = some y0 := h0
  have h1 : DataW.trod enc P w base spare held n' tl [x1] = some y1 := h1
  have h2 : DataW.trod enc P w base spare held n' tl [x2] = some y2 := h2
  have h3 : DataW.trod enc P w base spare held n' tu [x3] = some y3 := h3
  obtain ⟨s0, l0, c0, z0, rfl, r0⟩ := open_words1 hl he hCe h0
  obtain ⟨s1, l1, c1, z1, rfl, r1⟩ := open_words1 hl he hCe h1
  obtain ⟨s2, l2, c2, z2, rfl, r2⟩ := open_words1 hl he hCe h2
  obtain ⟨n, hv, _, hw⟩ := DataW.trod_int hu h3
  simp at hv
  subst hv
  exact ⟨s0, l0, c0, z0, s1, l1, c1, z1, s2, l2, c2, z2, n, rfl, r0, r1, r2, hw⟩

theorem open_node {r : Reach} {b0 : Nat} {t tl te tu : TypeId} {fs : Array Field} {v : Value} {d : DataW H} {p : List MemPlace}
    (ht : P.underlying t = some (.struct fs)) (hsz : fs.size = 4) (hC : P.cellsOf t = 4) (hf : ∀ (i : Nat) f, fs[i]? = some f → f.offset = i ∧ f.type = (if i = 3 then tu else tl))
    (hl : P.underlying tl = some (.slice te)) (he : P.underlying te = some (.int .u64)) (hu : P.underlying tu = some (.int .u64)) (hCl : P.cellsOf tl = 1) (hCu : P.cellsOf tu = 1) (hCe : P.cellsOf te = 1)
    (hval : Value.okWide P w r b0 t v) (h : DataW.Trod enc P w base spare held t v d p) :
    ∃ (s0 : Option Addr) (l0 c0 : Nat) (z0 : List (List Int)) (s1 : Option Addr) (l1 c1 : Nat) (z1 : List (List Int)) (s2 : Option Addr) (l2 c2 : Nat) (z2 : List (List Int)) (n : Int),
      v = .agg #[.slice s0 l0 c0, .slice s1 l1 c1, .slice s2 l2 c2, .int .u64 n] ∧ Recs w s0 l0 [some .u64] z0 ∧ Recs w s1 l1 [some .u64] z1 ∧ Recs w s2 l2 [some .u64] z2 ∧ (Lit.int .u64 n).wf = true := by
  obtain ⟨cs, rfl, _⟩ := okWide_struct ht hval
  obtain ⟨fuel, h0⟩ := h
  obtain ⟨s0, l0, c0, z0, s1, l1, c1, z1, s2, l2, c2, z2, n, hcs, rest⟩ := open_node4 ht hsz hC hf hl he hu hCl hCu hCe h0
  refine ⟨s0, l0, c0, z0, s1, l1, c1, z1, s2, l2, c2, z2, n, ?_, rest⟩
  have : Value.cells (.agg cs) = cs := by simp [Value.cells]
  rw [this] at hcs
  rw [← hcs]

/-- What a slice of strings that came in holds. -/
structure Strs (w : World) (a : Option Addr) (len : Nat) (ss : List ByteArray) : Prop where
  count : ss.length = len
  max : len ≤ maxLen
  ok : ∀ s ∈ ss, s.size ≤ maxLen
  cells : 0 < len → ∃ b off, a = some ⟨b, off, none⟩ ∧ b < w.heap.size ∧ ∀ (i : Nat) s, ss[i]? = some s → w.cell? ⟨b, off + i, none⟩ = some (.string s)
theorem Strs.mod {w w' : World} {a : Option Addr} {len : Nat} {ss : List ByteArray} (h : Strs w a len ss) (hm : Mod No w w') : Strs w' a len ss := by
  refine ⟨h.count, h.max, h.ok, fun hl => ?_⟩
  obtain ⟨b, off, e, hb, hc⟩ := h.cells hl
  exact ⟨b, off, e, Nat.lt_of_lt_of_le hb hm.size, fun i s hs => hm.cell (hc i s hs) (fun x => x)⟩
theorem open_strs {t e : TypeId} {a : Option Addr} {len cap : Nat} {d : DataW H} {p : List MemPlace} (ht : P.underlying t = some (.slice e)) (he : P.underlying e = some .string) (hC : P.cellsOf e = 1)
    (h : DataW.Trod enc P w base spare held t (.slice a len cap) d p) : ∃ ss, Strs w a len ss := by
  obtain ⟨fuel, hf⟩ := h
  rcases open_slice1 ht hC hf with ⟨hcs, _⟩ | ⟨x, l, c, m, n, V, D, Pl, hcs, _, hl, hm, hmm, _, hi⟩
  · simp [Value.cells] at hcs
    obtain ⟨rfl, rfl, rfl⟩ := hcs
    exact ⟨[], rfl, Nat.zero_le _, by simp, by omega⟩
  · simp [Value.cells] at hcs
    obtain ⟨rfl, rfl, rfl⟩ := hcs
    have hml : len ≤ m := by rw [hmm]; split <;> omega
    have each : ∀ i, i < len → ∃ s : ByteArray, s.size ≤ maxLen ∧ w.cell? (x.add i) = some (.string s) := fun i hil => by
      obtain ⟨hc, ht'⟩ := hi i (by omega)
      obtain ⟨s, hv, _, hs⟩ := DataW.trod_string he ht'
      simp at hv
      exact ⟨s, hs, by rw [hc, hv]⟩
    have hall : ∀ m, m ≤ len → ∃ ss : List ByteArray, ss.length = m ∧ ∀ i s, ss[i]? = some s → s.size ≤ maxLen ∧ w.cell? (x.add i) = some (.string s) := by
      intro m
      induction m with
      | zero => exact fun _ => ⟨[], rfl, by simp⟩
      | succ m ih =>
        intro hm
        obtain ⟨ss, hl, hr⟩ := ih (by omega)
        obtain ⟨s, hs⟩ := each m (by omega)
        refine ⟨ss ++ [s], by simp [hl], fun i s' hi => ?_⟩
        rw [List.getElem?_append] at hi
        split at hi
        · exact hr i s' hi
        · rename_i hge
          have : i = m := by
            have := (List.getElem?_eq_some_iff.1 hi).1
            simp at this; omega
          subst this
          rw [hl, Nat.sub_self] at hi
          simp at hi
          subst hi
          exact hs
    obtain ⟨ss, hsl, hr⟩ := hall len (Nat.le_refl _)
    refine ⟨ss, hsl, by omega, fun s hm => ?_, fun hpos => ?_⟩
    · obtain ⟨i, hi⟩ := List.getElem?_of_mem hm
      exact (hr i s hi).1
    · have hspot : x.spot = none ∧ x.block < w.heap.size := by
        obtain ⟨s, _, hc⟩ := each 0 hpos
        have e : x.add 0 = x := by simp [Addr.add]
        rw [e] at hc
        exact ⟨World.cell?_spot hc, cell_lt hc⟩
      refine ⟨x.block, x.off, ?_, hspot.2, fun i s h1 => ?_⟩
      · obtain ⟨b, o, s⟩ := x; simp at hspot; simp [hspot.1]
      · have hc := (hr i s h1).2
        rw [addr_of hc (fun _ => hspot.1)] at hc
        exact hc
end
end Go.Proofs.YtpcomekikeoliaaGreatDoor
