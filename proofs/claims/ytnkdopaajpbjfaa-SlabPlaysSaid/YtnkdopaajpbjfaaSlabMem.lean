/- An arena in memory. No condition. -/
import Derived.Test.YtnkdopaajpbjfaaProg
import Derived.Test.YtnkdopaajpbjfaaMapPtr
import Derived.Test.YtnkdopaajpbjfaaSlabSpec
namespace Go.Proofs.Ytnkdopaajpbjfaa
open Go Go.RowKit
open Go.Maps (Keyed Tidy)

/-- A page's words. -/
def pageCells (wd : Nat → Int) (k : Nat) : Array Value := ((List.range 64).map fun j => Value.int .u64 (wd (64 * k + j))).toArray

theorem pageCells_get (wd : Nat → Int) (k j : Nat) (hj : j < 64) : (pageCells wd k)[j]? = some (.int .u64 (wd (64 * k + j))) := by
  simp [pageCells, hj]

theorem pageCells_set (wd : Nat → Int) (k j : Nat) (v : Int) (hj : j < 64) : (pageCells wd k).setIfInBounds j (.int .u64 v) = pageCells (fun x => if x = 64 * k + j then v else wd x) k := by
  apply Array.ext_getElem?
  intro i
  rw [Array.getElem?_setIfInBounds]
  by_cases hi : i < 64
  · rw [pageCells_get _ _ _ hi, pageCells_get _ _ _ hi]
    by_cases e : j = i
    · subst e
      have : j < (pageCells wd k).size := by simpa [pageCells] using hj
      simp [this]
    · have h2 : ¬ i = j := fun x => e x.symm
      simp [e, h2]
  · have h1 : (pageCells wd k)[i]? = none := Array.getElem?_eq_none (by simp [pageCells]; omega)
    have h2 : (pageCells (fun x => if x = 64 * k + j then v else wd x) k)[i]? = none := Array.getElem?_eq_none (by simp [pageCells]; omega)
    have : j ≠ i := by omega
    rw [if_neg this, h1, h2]

theorem pageCells_congr {wd wd' : Nat → Int} {k : Nat} (h : ∀ j, j < 64 → wd (64 * k + j) = wd' (64 * k + j)) : pageCells wd k = pageCells wd' k := by
  unfold pageCells
  congr 1
  exact List.map_congr_left fun j hj => by rw [h j (List.mem_range.1 hj)]

/-- An arena in memory: its struct is block s, its map block b, page k's words are block p k. -/
structure SlabM (w : World) (s b : Nat) (quota : Int) (L : List Nat) (p : Nat → Nat) (wd : Nat → Int) : Prop where
  box : w.heap[s]? = some (.cells #[.int .i64 quota, .map (some b)] 62 (0, 0))
  map : ∃ D, w.ownsMap Try.prog 3 ptrElem b L.length D ∧ MapIs D L p
  page : ∀ k ∈ L, w.heap[p k]? = some (.cells (pageCells wd k) 66 (0, 0))
  inj : ∀ k ∈ L, ∀ j ∈ L, p k = p j → k = j
  nodup : L.Nodup
  small : ∀ k ∈ L, k < 33554432

/-- Its blocks. -/
def SFoot (s b : Nat) (L : List Nat) (p : Nat → Nat) (x : Nat) : Prop := x = s ∨ x = b ∨ ∃ k ∈ L, x = p k

theorem law : Keyed Try.prog 3 := Go.Maps.int_keyed Try.underlying3
theorem zeroPage (w : World) : (zeroValue 65).run Try.prog w = .ok (.pointer none) w := by kernel_rfl

section
variable {w w' : World} {s b : Nat} {quota : Int} {L : List Nat} {p : Nat → Nat} {wd : Nat → Int}

theorem SlabM.keep (h : SlabM w s b quota L p wd) (hk : ∀ k, SFoot s b L p k → w'.heap[k]? = w.heap[k]?) : SlabM w' s b quota L p wd := by
  obtain ⟨D, hD, hM⟩ := h.map
  exact ⟨by rw [hk s (.inl rfl)]; exact h.box, ⟨D, ownsMap_heap hD (hk b (.inr (.inl rfl))), hM⟩, fun k hkL => by rw [hk _ (.inr (.inr ⟨k, hkL, rfl⟩))]; exact h.page k hkL, h.inj, h.nodup, h.small⟩

theorem SlabM.lt (h : SlabM w s b quota L p wd) : ∀ k, SFoot s b L p k → k < w.heap.size := by
  rintro k (rfl | rfl | ⟨j, hj, rfl⟩)
  · exact lt_of_at h.box
  · obtain ⟨D, hD, _⟩ := h.map; exact hD.lt
  · exact lt_of_at (h.page j hj)

theorem SlabM.c0 (h : SlabM w s b quota L p wd) : w.cell? ⟨s, 0, none⟩ = some (.int .i64 quota) := by rw [cell_at h.box]; rfl
theorem SlabM.c1 (h : SlabM w s b quota L p wd) : w.cell? ⟨s, 1, none⟩ = some (.map (some b)) := by rw [cell_at h.box]; rfl
theorem SlabM.word (h : SlabM w s b quota L p wd) {k j : Nat} (hk : k ∈ L) (hj : j < 64) : w.cell? ⟨p k, j, none⟩ = some (.int .u64 (wd (64 * k + j))) := by rw [cell_at (h.page k hk)]; exact pageCells_get _ _ _ hj
theorem SlabM.fz (h : SlabM w s b quota L p wd) {k : Nat} (hk : k ∈ L) (j : Nat) : w.frozen? ⟨p k, j, none⟩ = false := frozen_at (h.page k hk) j

theorem SlabM.look (h : SlabM w s b quota L p wd) {k : Nat} (hk : k ∈ L) : (Instr.lookup 60 (.map (some b)) (.int .i64 (k : Int)) false).run Try.prog w = .ok (.pointer (some ⟨p k, 0, none⟩)) w := by
  obtain ⟨D, hD, hM⟩ := h.map
  have hs := h.small k hk
  obtain ⟨v, ps, hrun, hv⟩ := hD.lookup (zd := .nil) (zp := []) law Try.underlying60 (zeroPage w) rfl (Go.Maps.keyOf_int_mk Try.underlying3 (a := (k : Int)) (wf_i64_of (by omega) (by omega)))
  rw [show Lit.int .i64 (k : Int) = keyL k from rfl, hM.hit hk] at hv
  rw [ptrElem_inv hv] at hrun
  exact hrun

theorem SlabM.miss (h : SlabM w s b quota L p wd) {n : Int} (hn : ∀ k ∈ L, (k : Int) ≠ n) (n0 : -9223372036854775808 ≤ n) (n1 : n ≤ 9223372036854775807) :
    (Instr.lookup 60 (.map (some b)) (.int .i64 n) false).run Try.prog w = .ok (.pointer none) w := by
  obtain ⟨D, hD, hM⟩ := h.map
  obtain ⟨v, ps, hrun, hv⟩ := hD.lookup (zd := .nil) (zp := []) law Try.underlying60 (zeroPage w) rfl (Go.Maps.keyOf_int_mk Try.underlying3 (wf_i64_of n0 n1))
  rw [hM.miss hn] at hv
  rw [ptrElem_nil hv] at hrun
  exact hrun

theorem SlabM.len (h : SlabM w s b quota L p wd) (ty : TypeId) (w' : World) (hw : w'.heap = w.heap) : (Builtin.len_ #[60] ty #[.map (some b)]).run Try.prog w' = .ok (.int .i64 L.length) w' := by
  obtain ⟨D, hD, hM⟩ := h.map
  rw [← hM.size]
  exact (ownsMap_heap hD (by rw [hw])).len Try.underlying60 ty

/-- A word is another one. -/
theorem SlabM.put (h : SlabM w s b quota L p wd) {k j : Nat} (hk : k ∈ L) (hj : j < 64) (v : Int) : SlabM (w.setCell ⟨p k, j, none⟩ (.int .u64 v)) s b quota L p (fun x => if x = 64 * k + j then v else wd x) := by
  have hs : s ≠ p k := fun e => by
    have h1 := h.box
    have h2 := h.page k hk
    rw [e, h2] at h1
    simp only [Option.some.injEq, Obj.cells.injEq] at h1
    exact absurd h1.2.1 (by decide)
  have hb : b ≠ p k := fun e => by
    obtain ⟨D, ⟨es, c, h1, _⟩, _⟩ := h.map
    have h2 := h.page k hk
    rw [e, h2] at h1
    simp at h1
  obtain ⟨D, hD, hM⟩ := h.map
  refine ⟨by rw [at_setCell_ne _ _ hs]; exact h.box, ⟨D, ownsMap_heap hD (at_setCell_ne _ _ hb), hM⟩, fun i hi => ?_, h.inj, h.nodup, h.small⟩
  by_cases e : p i = p k
  · have hik := h.inj i hi k hk e
    subst hik
    rw [at_setCell (h.page i hi), pageCells_set _ _ _ _ hj]
  · rw [at_setCell_ne _ _ e, h.page i hi]
    have hne : i ≠ k := fun e2 => e (by rw [e2])
    rw [pageCells_congr (wd := wd) (wd' := fun x => if x = 64 * k + j then v else wd x) fun m hm => by
      rw [if_neg (by omega)]]
end

/-- 64 words 0. -/
def zeros64 : Array Value := (List.replicate 64 (Value.int .u64 0)).toArray
theorem pageCells_zero {wd : Nat → Int} {k : Nat} (h : ∀ j, j < 64 → wd (64 * k + j) = 0) : pageCells wd k = zeros64 := by
  rw [pageCells_congr (wd' := fun _ => 0) h]
  rfl

section
variable {w w' : World} {s b : Nat} {quota : Int} {L : List Nat} {p : Nat → Nat} {wd : Nat → Int}

theorem SlabM.perm {L' : List Nat} (h : SlabM w s b quota L p wd) (hp : L.Perm L') : SlabM w s b quota L' p wd := by
  obtain ⟨D, hD, hM⟩ := h.map
  exact ⟨h.box, ⟨D, by rw [← hp.length_eq]; exact hD, hM.perm hp⟩, fun k hk => h.page k (hp.mem_iff.2 hk), fun k hk j hj => h.inj k (hp.mem_iff.2 hk) j (hp.mem_iff.2 hj), hp.nodup_iff.1 h.nodup, fun k hk => h.small k (hp.mem_iff.2 hk)⟩
theorem SlabM.words_eq {wd' : Nat → Int} (h : SlabM w s b quota L p wd) (he : ∀ k ∈ L, ∀ j, j < 64 → wd (64 * k + j) = wd' (64 * k + j)) : SlabM w s b quota L p wd' :=
  ⟨h.box, h.map, fun k hk => by rw [← pageCells_congr (he k hk)]; exact h.page k hk, h.inj, h.nodup, h.small⟩

theorem SlabM.ne_map (h : SlabM w s b quota L p wd) : s ≠ b ∧ ∀ k ∈ L, p k ≠ b := by
  obtain ⟨D, ⟨es, c, h1, _⟩, _⟩ := h.map
  refine ⟨fun e => ?_, fun k hk e => ?_⟩
  · have h2 := h.box
    rw [e, h1] at h2
    simp at h2
  · have h2 := h.page k hk
    rw [e, h1] at h2
    simp at h2
theorem SlabM.ne_box (h : SlabM w s b quota L p wd) {k : Nat} (hk : k ∈ L) : p k ≠ s := fun e => by
  have h1 := h.box
  have h2 := h.page k hk
  rw [e, h1] at h2
  simp only [Option.some.injEq, Obj.cells.injEq] at h2
  exact absurd h2.2.1 (by decide)

/-- 's.l[n] = &page{}', where there is no such page. -/
theorem wpList_newPage {ops : Array Oper} {rest : List Oper} {o : Oper} {a : Act} {Q : Exit → Act → World → Prop} (h : SlabM w s b quota L p wd) (hgd : o.guard = none) (m x v : Operand)
    (hop : o.op = Op.mapUpdate 60 m x v) (hm : a.eval m = .map (some b)) (k : Nat) (n : Int) (hx : a.eval x = .int .i64 n) (hn : n = k) (hk : k ∉ L) (hks : k < 33554432) (hz : ∀ j, j < 64 → wd (64 * k + j) = 0)
    (hL : L.length ≤ 1000000) (x0 : Nat) (hv : a.eval v = .pointer (some ⟨x0, 0, none⟩)) (hx0 : x0 = w.heap.size) (C : Array Value) (hC : C = zeros64)
    (hK : ∀ w', SlabM w' s b quota (k :: L) (fun j => if j = k then w.heap.size else p j) wd → Mod (fun y => y = b) w w' → wpList Try.prog ops Q rest (a.put o.dst undef) w') :
    wpList Try.prog ops Q (o :: rest) a (w.alloc (.cells C 66)) := by
  subst hn hx0 hC
  have h1 : SlabM (w.alloc (.cells zeros64 66)) s b quota L p wd := h.keep fun y hy => Below.heap_alloc _ _ _ (h.lt y hy)
  obtain ⟨D, hD, hM⟩ := h1.map
  obtain ⟨w', hrun, hown, hturn⟩ := hD.store law Try.underlying60 (by unfold maxLen; omega) (Go.Maps.keyOf_int_mk Try.underlying3 (a := (k : Int)) (wf_i64_of (by omega) (by omega))) (ptrElem_some w.heap.size)
  have hg := hturn.grown
  have hM' := hM.put (b := w.heap.size) hk
  have hlt := h.lt
  obtain ⟨e1, e2⟩ := h.ne_map
  have hnb : w.heap.size ≠ b := fun e => by have := hlt b (.inr (.inl rfl)); omega
  refine wpList_plain hgd fun K' hK' => ?_
  unfold Oper.wp
  simp [execOp, hop, hm, hx, hv, hrun, Result.andThen]
  refine hK' _ _ (hK w' ⟨?_, ⟨_, ?_, hM'⟩, fun j hj => ?_, fun i hi j hj e => ?_, List.nodup_cons.2 ⟨hk, h.nodup⟩, fun j hj => ?_⟩ (((Mod.refl _ w).alloc _).grown hg (fun y hy => .inl (by cases hy; rfl))))
  · rw [hg.block s (by rw [World.size_alloc]; have := hlt s (.inl rfl); omega) (fun e => e1 (by simpa using e))]
    exact h1.box
  · have := ownsMap_tight hown
    rwa [show Lit.int .i64 (k : Int) = keyL k from rfl, hM'.size] at this
  · by_cases e : j = k
    · subst e
      rw [if_pos rfl, hg.block w.heap.size (by simp) (fun e => hnb (by simpa using e)), heap_alloc_new, pageCells_zero hz]
    · rw [if_neg e]
      have hj' : j ∈ L := by simpa [e] using hj
      have hl := hlt (p j) (.inr (.inr ⟨j, hj', rfl⟩))
      rw [hg.block (p j) (by rw [World.size_alloc]; omega) (fun e => e2 j hj' (by simpa using e))]
      exact h1.page j hj'
  · by_cases ei : i = k
    · by_cases ej : j = k
      · rw [ei, ej]
      · rw [if_pos ei, if_neg ej] at e
        have hj' : j ∈ L := by simpa [ej] using hj
        have := hlt (p j) (.inr (.inr ⟨j, hj', rfl⟩))
        omega
    · have hi' : i ∈ L := by simpa [ei] using hi
      by_cases ej : j = k
      · rw [if_neg ei, if_pos ej] at e
        have := hlt (p i) (.inr (.inr ⟨i, hi', rfl⟩))
        omega
      · rw [if_neg ei, if_neg ej] at e
        exact h.inj i hi' j (by simpa [ej] using hj) e
  · rcases List.mem_cons.1 hj with rfl | hj
    · exact hks
    · exact h.small j hj

/-- 'delete(s.l, n)'. -/
theorem wpList_dropPage {ops : Array Oper} {rest : List Oper} {o : Oper} {a : Act} {Q : Exit → Act → World → Prop} (h : SlabM w s b quota L p wd) (hgd : o.guard = none) (m x : Operand)
    (hop : o.op = Op.call { callee := Callee.builtin Builtin.delete, args := #[m, x], argTypes := #[60, 3] }) (hm : a.eval m = .map (some b)) (k : Nat) (n : Int) (hx : a.eval x = .int .i64 n) (hn : n = k) (hks : k < 33554432)
    (hK : ∀ w', SlabM w' s b quota (L.filter fun j => j != k) p wd → Mod (fun y => y = b) w w' → wpList Try.prog ops Q rest (a.put o.dst (.tuple #[])) w') :
    wpList Try.prog ops Q (o :: rest) a w := by
  subst hn
  obtain ⟨D, hD, hM⟩ := h.map
  obtain ⟨w', hrun, hown, hturn⟩ := hD.drop law Try.underlying60 (Go.Maps.keyOf_int_mk Try.underlying3 (a := (k : Int)) (wf_i64_of (by omega) (by omega))) o.type
  have hg := hturn.grown
  have hM' := hM.del k
  have hlt := h.lt
  obtain ⟨e1, e2⟩ := h.ne_map
  refine wpList_plain hgd fun K' hK' => ?_
  unfold Oper.wp
  simp [execOp, hop, resolve, invoke, builtin, hm, hx, hrun, Result.andThen]
  refine hK' _ _ (hK w' ⟨?_, ⟨_, ?_, hM'⟩, fun j hj => ?_, fun i hi j hj e => ?_, h.nodup.filter _, fun j hj => ?_⟩ ((Mod.refl _ w).grown hg (fun y hy => .inl (by cases hy; rfl))))
  · rw [hg.block s (hlt s (.inl rfl)) (fun e => e1 (by simpa using e))]
    exact h.box
  · have := ownsMap_tight hown
    rwa [show Lit.int .i64 (k : Int) = keyL k from rfl, hM'.size] at this
  · have hj' := (List.mem_filter.1 hj).1
    rw [hg.block (p j) (hlt _ (.inr (.inr ⟨j, hj', rfl⟩))) (fun e => e2 j hj' (by simpa using e))]
    exact h.page j hj'
  · exact h.inj i (List.mem_filter.1 hi).1 j (List.mem_filter.1 hj).1 e
  · exact h.small j (List.mem_filter.1 hj).1
end

/-- An arena. -/
def slabR (s : Nat) (S : Slb) : Res where
  P w F := ∃ b p, SlabM w s b S.quota S.pg p S.wd ∧ S.Ok ∧ F = SFoot s b S.pg p
  keep := fun ⟨b, p, h, hS, hF⟩ hk => ⟨b, p, h.keep (fun k hk' => hk k (by rw [hF]; exact hk')), hS, hF⟩
  lt := fun ⟨b, p, h, hS, hF⟩ k hk => h.lt k (by rw [hF] at hk; exact hk)
end Go.Proofs.Ytnkdopaajpbjfaa
