/- An arena in memory. No condition. | slab.Slab: none, at, Read, Write, Is, Quota, New, Claim, walked. Conditions: the arena is as said; arguments are 64-bit. | slab.Slab: Claim, Grant, Release, Move, walked. Conditions: the arena is as said; arguments are 64-bit. | slab.Slab: Release, Move, walked. Conditions: the arena is as said; arguments are 64-bit. | slab.Slab: Move, walked. Conditions: the arena is as said; arguments are 64-bit. -/
import Derived.Test.YtfmkiioahnphbaaDoorProg
import Derived.Test.YtfmkiioahnphbaaDoorGround
import Derived.WalkSpells
import Derived.BigQuiet
import Derived.Deep.QuietTactic
import Derived.Lib.MinMax
set_option linter.unusedVariables false
set_option linter.unusedSimpArgs false
set_option maxRecDepth 100000
namespace Go.Proofs.YtfmkiioahnphbaaDoor
open Go Go.RowKit
open Go.Maps (Keyed Tidy)

/-- A page's words. -/
def pageCells (wd : Nat → Int) (k : Nat) : Array Value := ((List.range 64).map fun j => Value.int .u64 (wd (64 * k + j))).toArray

theorem pageCells_get (wd : Nat → Int) (k j : Nat) (hj : j < 64) : (pageCells wd k)[j]? = some (.int .u64 (wd (64 * k + j))) := by
  simp [pageCells, hj]

theorem pageCells_set (wd : Nat → Int) (k j : Nat) (v : Int) (hj : j < 64) : (pageCells wd k).setIfInBounds j (.int .u64 v) = pageCells (fun x => if x = 64 * k + j then v else wd x) k := by
  apply Array.ext_getElem?
  intro i
  rw [Array.getElem?_setIfInBounds]
  by_cases hi : i < 64
  · rw [pageCells_get _ _ _ hi, pageCells_get _ _ _ hi]
    by_cases e : j = i
    · subst e
      have : j < (pageCells wd k).size := by simpa [pageCells] using hj
      simp [this]
    · have h2 : ¬ i = j := fun x => e x.symm
      simp [e, h2]
  · have h1 : (pageCells wd k)[i]? = none := Array.getElem?_eq_none (by simp [pageCells]; omega)
    have h2 : (pageCells (fun x => if x = 64 * k + j then v else wd x) k)[i]? = none := Array.getElem?_eq_none (by simp [pageCells]; omega)
    have : j ≠ i := by omega
    rw [if_neg this, h1, h2]

theorem pageCells_congr {wd wd' : Nat → Int} {k : Nat} (h : ∀ j, j < 64 → wd (64 * k + j) = wd' (64 * k + j)) : pageCells wd k = pageCells wd' k := by
  unfold pageCells
  congr 1
  exact List.map_congr_left fun j hj => by rw [h j (List.mem_range.1 hj)]

/-- An arena in memory: its struct is block s, its map block b, page k's words are block p k. -/
structure SlabM (w : World) (s b : Nat) (quota : Int) (L : List Nat) (p : Nat → Nat) (wd : Nat → Int) : Prop where
  box : w.heap[s]? = some (.cells #[.int .i64 quota, .map (some b)] 55 (0, 0))
  map : ∃ D, w.ownsMap Tryd.prog 3 ptrElem b L.length D ∧ MapIs D L p
  page : ∀ k ∈ L, w.heap[p k]? = some (.cells (pageCells wd k) 58 (0, 0))
  inj : ∀ k ∈ L, ∀ j ∈ L, p k = p j → k = j
  nodup : L.Nodup
  small : ∀ k ∈ L, k < 33554432
  adj : b + 1 = s

/-- Its blocks. -/
def SFoot (s b : Nat) (L : List Nat) (p : Nat → Nat) (x : Nat) : Prop := x = s ∨ x = b ∨ ∃ k ∈ L, x = p k

theorem law : Keyed Tryd.prog 3 := Go.Maps.int_keyed Tryd.underlying3
theorem zeroPage (w : World) : (zeroValue 56).run Tryd.prog w = .ok (.pointer none) w := by kernel_rfl

section
variable {w w' : World} {s b : Nat} {quota : Int} {L : List Nat} {p : Nat → Nat} {wd : Nat → Int}

theorem SlabM.keep (h : SlabM w s b quota L p wd) (hk : ∀ k, SFoot s b L p k → w'.heap[k]? = w.heap[k]?) : SlabM w' s b quota L p wd := by
  obtain ⟨D, hD, hM⟩ := h.map
  exact ⟨by rw [hk s (.inl rfl)]; exact h.box, ⟨D, ownsMap_heap hD (hk b (.inr (.inl rfl))), hM⟩, fun k hkL => by rw [hk _ (.inr (.inr ⟨k, hkL, rfl⟩))]; exact h.page k hkL, h.inj, h.nodup, h.small, h.adj⟩

theorem SlabM.lt (h : SlabM w s b quota L p wd) : ∀ k, SFoot s b L p k → k < w.heap.size := by
  rintro k (rfl | rfl | ⟨j, hj, rfl⟩)
  · exact lt_of_at h.box
  · obtain ⟨D, hD, _⟩ := h.map; exact hD.lt
  · exact lt_of_at (h.page j hj)

theorem SlabM.c0 (h : SlabM w s b quota L p wd) : w.cell? ⟨s, 0, none⟩ = some (.int .i64 quota) := by rw [cell_at h.box]; rfl
theorem SlabM.c1 (h : SlabM w s b quota L p wd) : w.cell? ⟨s, 1, none⟩ = some (.map (some b)) := by rw [cell_at h.box]; rfl
theorem SlabM.word (h : SlabM w s b quota L p wd) {k j : Nat} (hk : k ∈ L) (hj : j < 64) : w.cell? ⟨p k, j, none⟩ = some (.int .u64 (wd (64 * k + j))) := by rw [cell_at (h.page k hk)]; exact pageCells_get _ _ _ hj
theorem SlabM.fz (h : SlabM w s b quota L p wd) {k : Nat} (hk : k ∈ L) (j : Nat) : w.frozen? ⟨p k, j, none⟩ = false := frozen_at (h.page k hk) j

theorem SlabM.look (h : SlabM w s b quota L p wd) {k : Nat} (hk : k ∈ L) : (Instr.lookup 53 (.map (some b)) (.int .i64 (k : Int)) false).run Tryd.prog w = .ok (.pointer (some ⟨p k, 0, none⟩)) w := by
  obtain ⟨D, hD, hM⟩ := h.map
  have hs := h.small k hk
  obtain ⟨v, ps, hrun, hv⟩ := hD.lookup (zd := .nil) (zp := []) law Tryd.underlying53 (zeroPage w) rfl (Go.Maps.keyOf_int_mk Tryd.underlying3 (a := (k : Int)) (wf_i64_of (by omega) (by omega)))
  rw [show Lit.int .i64 (k : Int) = keyL k from rfl, hM.hit hk] at hv
  rw [ptrElem_inv hv] at hrun
  exact hrun

theorem SlabM.miss (h : SlabM w s b quota L p wd) {n : Int} (hn : ∀ k ∈ L, (k : Int) ≠ n) (n0 : -9223372036854775808 ≤ n) (n1 : n ≤ 9223372036854775807) :
    (Instr.lookup 53 (.map (some b)) (.int .i64 n) false).run Tryd.prog w = .ok (.pointer none) w := by
  obtain ⟨D, hD, hM⟩ := h.map
  obtain ⟨v, ps, hrun, hv⟩ := hD.lookup (zd := .nil) (zp := []) law Tryd.underlying53 (zeroPage w) rfl (Go.Maps.keyOf_int_mk Tryd.underlying3 (wf_i64_of n0 n1))
  rw [hM.miss hn] at hv
  rw [ptrElem_nil hv] at hrun
  exact hrun

theorem SlabM.len (h : SlabM w s b quota L p wd) (ty : TypeId) (w' : World) (hw : w'.heap = w.heap) : (Builtin.len_ #[53] ty #[.map (some b)]).run Tryd.prog w' = .ok (.int .i64 L.length) w' := by
  obtain ⟨D, hD, hM⟩ := h.map
  rw [← hM.size]
  exact (ownsMap_heap hD (by rw [hw])).len Tryd.underlying53 ty

/-- A word is another one. -/
theorem SlabM.put (h : SlabM w s b quota L p wd) {k j : Nat} (hk : k ∈ L) (hj : j < 64) (v : Int) : SlabM (w.setCell ⟨p k, j, none⟩ (.int .u64 v)) s b quota L p (fun x => if x = 64 * k + j then v else wd x) := by
  have hs : s ≠ p k := fun e => by
    have h1 := h.box
    have h2 := h.page k hk
    rw [e, h2] at h1
    simp only [Option.some.injEq, Obj.cells.injEq] at h1
    exact absurd h1.2.1 (by decide)
  have hb : b ≠ p k := fun e => by
    obtain ⟨D, ⟨es, c, h1, _⟩, _⟩ := h.map
    have h2 := h.page k hk
    rw [e, h2] at h1
    simp at h1
  obtain ⟨D, hD, hM⟩ := h.map
  refine ⟨by rw [at_setCell_ne _ _ hs]; exact h.box, ⟨D, ownsMap_heap hD (at_setCell_ne _ _ hb), hM⟩, fun i hi => ?_, h.inj, h.nodup, h.small, h.adj⟩
  by_cases e : p i = p k
  · have hik := h.inj i hi k hk e
    subst hik
    rw [at_setCell (h.page i hi), pageCells_set _ _ _ _ hj]
  · rw [at_setCell_ne _ _ e, h.page i hi]
    have hne : i ≠ k := fun e2 => e (by rw [e2])
    rw [pageCells_congr (wd := wd) (wd' := fun x => if x = 64 * k + j then v else wd x) fun m hm => by
      rw [if_neg (by omega)]]
end

/-- 64 words 0. -/
def zeros64 : Array Value := (List.replicate 64 (Value.int .u64 0)).toArray
theorem pageCells_zero {wd : Nat → Int} {k : Nat} (h : ∀ j, j < 64 → wd (64 * k + j) = 0) : pageCells wd k = zeros64 := by
  rw [pageCells_congr (wd' := fun _ => 0) h]
  rfl

section
variable {w w' : World} {s b : Nat} {quota : Int} {L : List Nat} {p : Nat → Nat} {wd : Nat → Int}

theorem SlabM.perm {L' : List Nat} (h : SlabM w s b quota L p wd) (hp : L.Perm L') : SlabM w s b quota L' p wd := by
  obtain ⟨D, hD, hM⟩ := h.map
  exact ⟨h.box, ⟨D, by rw [← hp.length_eq]; exact hD, hM.perm hp⟩, fun k hk => h.page k (hp.mem_iff.2 hk), fun k hk j hj => h.inj k (hp.mem_iff.2 hk) j (hp.mem_iff.2 hj), hp.nodup_iff.1 h.nodup, fun k hk => h.small k (hp.mem_iff.2 hk), h.adj⟩
theorem SlabM.words_eq {wd' : Nat → Int} (h : SlabM w s b quota L p wd) (he : ∀ k ∈ L, ∀ j, j < 64 → wd (64 * k + j) = wd' (64 * k + j)) : SlabM w s b quota L p wd' :=
  ⟨h.box, h.map, fun k hk => by rw [← pageCells_congr (he k hk)]; exact h.page k hk, h.inj, h.nodup, h.small, h.adj⟩

theorem SlabM.ne_map (h : SlabM w s b quota L p wd) : s ≠ b ∧ ∀ k ∈ L, p k ≠ b := by
  obtain ⟨D, ⟨es, c, h1, _⟩, _⟩ := h.map
  refine ⟨fun e => ?_, fun k hk e => ?_⟩
  · have h2 := h.box
    rw [e, h1] at h2
    simp at h2
  · have h2 := h.page k hk
    rw [e, h1] at h2
    simp at h2
theorem SlabM.ne_box (h : SlabM w s b quota L p wd) {k : Nat} (hk : k ∈ L) : p k ≠ s := fun e => by
  have h1 := h.box
  have h2 := h.page k hk
  rw [e, h1] at h2
  simp only [Option.some.injEq, Obj.cells.injEq] at h2
  exact absurd h2.2.1 (by decide)

/-- 's.l[n] = &page{}', where there is no such page. -/
theorem wpList_newPage {ops : Array Oper} {rest : List Oper} {o : Oper} {a : Act} {Q : Exit → Act → World → Prop} (h : SlabM w s b quota L p wd) (hgd : o.guard = none) (m x v : Operand)
    (hop : o.op = Op.mapUpdate 53 m x v) (hm : a.eval m = .map (some b)) (k : Nat) (n : Int) (hx : a.eval x = .int .i64 n) (hn : n = k) (hk : k ∉ L) (hks : k < 33554432) (hz : ∀ j, j < 64 → wd (64 * k + j) = 0)
    (hL : L.length ≤ 1000000) (x0 : Nat) (hv : a.eval v = .pointer (some ⟨x0, 0, none⟩)) (hx0 : x0 = w.heap.size) (C : Array Value) (hC : C = zeros64)
    (hK : ∀ w', SlabM w' s b quota (k :: L) (fun j => if j = k then w.heap.size else p j) wd → Mod (fun y => y = b) w w' → wpList Tryd.prog ops Q rest (a.put o.dst undef) w') :
    wpList Tryd.prog ops Q (o :: rest) a (w.alloc (.cells C 58)) := by
  subst hn hx0 hC
  have h1 : SlabM (w.alloc (.cells zeros64 58)) s b quota L p wd := h.keep fun y hy => Below.heap_alloc _ _ _ (h.lt y hy)
  obtain ⟨D, hD, hM⟩ := h1.map
  obtain ⟨w', hrun, hown, hturn⟩ := hD.store law Tryd.underlying53 (by unfold maxLen; omega) (Go.Maps.keyOf_int_mk Tryd.underlying3 (a := (k : Int)) (wf_i64_of (by omega) (by omega))) (ptrElem_some w.heap.size)
  have hg := hturn.grown
  have hM' := hM.put (b := w.heap.size) hk
  have hlt := h.lt
  obtain ⟨e1, e2⟩ := h.ne_map
  have hnb : w.heap.size ≠ b := fun e => by have := hlt b (.inr (.inl rfl)); omega
  refine wpList_plain hgd fun K' hK' => ?_
  unfold Oper.wp
  simp [execOp, hop, hm, hx, hv, hrun, Result.andThen]
  refine hK' _ _ (hK w' ⟨?_, ⟨_, ?_, hM'⟩, fun j hj => ?_, fun i hi j hj e => ?_, List.nodup_cons.2 ⟨hk, h.nodup⟩, fun j hj => ?_, h.adj⟩ (((Mod.refl _ w).alloc _).grown hg (fun y hy => .inl (by cases hy; rfl))))
  · rw [hg.block s (by rw [World.size_alloc]; have := hlt s (.inl rfl); omega) (fun e => e1 (by simpa using e))]
    exact h1.box
  · have := ownsMap_tight hown
    rwa [show Lit.int .i64 (k : Int) = keyL k from rfl, hM'.size] at this
  · by_cases e : j = k
    · subst e
      rw [if_pos rfl, hg.block w.heap.size (by simp) (fun e => hnb (by simpa using e)), heap_alloc_new, pageCells_zero hz]
    · rw [if_neg e]
      have hj' : j ∈ L := by simpa [e] using hj
      have hl := hlt (p j) (.inr (.inr ⟨j, hj', rfl⟩))
      rw [hg.block (p j) (by rw [World.size_alloc]; omega) (fun e => e2 j hj' (by simpa using e))]
      exact h1.page j hj'
  · by_cases ei : i = k
    · by_cases ej : j = k
      · rw [ei, ej]
      · rw [if_pos ei, if_neg ej] at e
        have hj' : j ∈ L := by simpa [ej] using hj
        have := hlt (p j) (.inr (.inr ⟨j, hj', rfl⟩))
        omega
    · have hi' : i ∈ L := by simpa [ei] using hi
      by_cases ej : j = k
      · rw [if_neg ei, if_pos ej] at e
        have := hlt (p i) (.inr (.inr ⟨i, hi', rfl⟩))
        omega
      · rw [if_neg ei, if_neg ej] at e
        exact h.inj i hi' j (by simpa [ej] using hj) e
  · rcases List.mem_cons.1 hj with rfl | hj
    · exact hks
    · exact h.small j hj

/-- 'delete(s.l, n)'. -/
theorem wpList_dropPage {ops : Array Oper} {rest : List Oper} {o : Oper} {a : Act} {Q : Exit → Act → World → Prop} (h : SlabM w s b quota L p wd) (hgd : o.guard = none) (m x : Operand)
    (hop : o.op = Op.call { callee := Callee.builtin Builtin.delete, args := #[m, x], argTypes := #[53, 3] }) (hm : a.eval m = .map (some b)) (k : Nat) (n : Int) (hx : a.eval x = .int .i64 n) (hn : n = k) (hks : k < 33554432)
    (hK : ∀ w', SlabM w' s b quota (L.filter fun j => j != k) p wd → Mod (fun y => y = b) w w' → wpList Tryd.prog ops Q rest (a.put o.dst (.tuple #[])) w') :
    wpList Tryd.prog ops Q (o :: rest) a w := by
  subst hn
  obtain ⟨D, hD, hM⟩ := h.map
  obtain ⟨w', hrun, hown, hturn⟩ := hD.drop law Tryd.underlying53 (Go.Maps.keyOf_int_mk Tryd.underlying3 (a := (k : Int)) (wf_i64_of (by omega) (by omega))) o.type
  have hg := hturn.grown
  have hM' := hM.del k
  have hlt := h.lt
  obtain ⟨e1, e2⟩ := h.ne_map
  refine wpList_plain hgd fun K' hK' => ?_
  unfold Oper.wp
  simp [execOp, hop, resolve, invoke, builtin, hm, hx, hrun, Result.andThen]
  refine hK' _ _ (hK w' ⟨?_, ⟨_, ?_, hM'⟩, fun j hj => ?_, fun i hi j hj e => ?_, h.nodup.filter _, fun j hj => ?_, h.adj⟩ ((Mod.refl _ w).grown hg (fun y hy => .inl (by cases hy; rfl))))
  · rw [hg.block s (hlt s (.inl rfl)) (fun e => e1 (by simpa using e))]
    exact h.box
  · have := ownsMap_tight hown
    rwa [show Lit.int .i64 (k : Int) = keyL k from rfl, hM'.size] at this
  · have hj' := (List.mem_filter.1 hj).1
    rw [hg.block (p j) (hlt _ (.inr (.inr ⟨j, hj', rfl⟩))) (fun e => e2 j hj' (by simpa using e))]
    exact h.page j hj'
  · exact h.inj i (List.mem_filter.1 hi).1 j (List.mem_filter.1 hj).1 e
  · exact h.small j (List.mem_filter.1 hj).1

end

/-- An arena. -/
def slabR (s : Nat) (S : Slb) : Res where
  P w F := ∃ b p, SlabM w s b S.quota S.pg p S.wd ∧ S.Ok ∧ F = SFoot s b S.pg p
  keep := fun ⟨b, p, h, hS, hF⟩ hk => ⟨b, p, h.keep (fun k hk' => hk k (by rw [hF]; exact hk')), hS, hF⟩
  lt := fun ⟨b, p, h, hS, hF⟩ k hk => h.lt k (by rw [hF] at hk; exact hk)
end Go.Proofs.YtfmkiioahnphbaaDoor

namespace Go.Proofs.YtfmkiioahnphbaaDoor
open Go Go.RowKit

variable {F0 : Nat → Prop} {w0 w : World} {Ps : List Res}

theorem none_some (w : World) (s b : Nat) (c1 : w.cell? ⟨s, 1, none⟩ = some (.map (some b))) :
    Calls Tryd.prog 18 #[.pointer (some ⟨s, 0, none⟩)] w fun e w' => e = .returned (.bool false) ∧ w = w' := by
  have hm := run_eql_map_nil (P := Tryd.prog) w 53 3 56 (some b) Tryd.underlying53
  go_enter Tryd.func18, Tryd.ntmps18
  go_wp2
  go_ret
  exact ⟨rfl, rfl⟩
theorem none_zero (w : World) (s : Nat) (c1 : w.cell? ⟨s, 1, none⟩ = some (.map none)) :
    Calls Tryd.prog 18 #[.pointer (some ⟨s, 0, none⟩)] w fun e w' => e = .returned (.bool true) ∧ w = w' := by
  have hm := run_eql_map_nil (P := Tryd.prog) w 53 3 56 none Tryd.underlying53
  go_enter Tryd.func18, Tryd.ntmps18
  go_wp2
  go_ret
  exact ⟨rfl, rfl⟩
theorem none_nil (w : World) :
    Calls Tryd.prog 18 #[.pointer none] w fun e w' => e = .returned (.bool true) ∧ w = w' := by
  go_enter Tryd.func18, Tryd.ntmps18
  go_wp2
  go_ret
  exact ⟨rfl, rfl⟩

section
variable {s b : Nat} {quota : Int} {L : List Nat} {p : Nat → Nat} {wd : Nat → Int}

theorem SlabM.there (h : SlabM w s b quota L p wd) :
    Calls Tryd.prog 18 #[.pointer (some ⟨s, 0, none⟩)] w fun e w' => e = .returned (.bool false) ∧ w = w' := none_some w s b h.c1

/-- What a page's place in the map is. -/
theorem SlabM.at_bad (h : SlabM w s b quota L p wd) (a : Int) (ha : a < 0 ∨ 67108863 < a) :
    Calls Tryd.prog 19 #[.pointer (some ⟨s, 0, none⟩), .int .i64 a] w fun e w' => e = .returned (.tuple #[.pointer none, .int .i64 2]) ∧ w = w' := by
  have hN := h.there
  clear h
  rcases ha with ha | ha
  · have d1 : decide (a < 0) = true := ltT ha
    clear ha
    go_enter Tryd.func19, Tryd.ntmps19
    go_wp2_with ((with_reducible refine hN.mono ?_); rintro e w' ⟨rfl, rfl⟩)
    go_ret2
    exact ⟨rfl, rfl⟩
  · have d1 : decide (a < 0) = false := ltF (by omega)
    have d2 : decide (67108863 < a) = true := ltT ha
    clear ha
    go_enter Tryd.func19, Tryd.ntmps19
    go_wp2_with ((with_reducible refine hN.mono ?_); rintro e w' ⟨rfl, rfl⟩)
    go_ret2
    exact ⟨rfl, rfl⟩

theorem SlabM.at_none (h : SlabM w s b quota L p wd) (a : Int) (h0 : 0 ≤ a) (h1 : a ≤ 67108863) (hn : (a / 64).toNat ∉ L) :
    Calls Tryd.prog 19 #[.pointer (some ⟨s, 0, none⟩), .int .i64 a] w fun e w' => e = .returned (.tuple #[.pointer none, .int .i64 5]) ∧ w = w' := by
  have hN := h.there
  have c1 := h.c1
  have hl := h.miss (n := a / 64) (fun k hk e => hn (by rw [show (a / 64).toNat = k by omega]; exact hk)) (by omega) (by omega)
  have d1 : decide (a < 0) = false := ltF h0
  have d2 : decide (67108863 < a) = false := ltF h1
  clear h hn
  go_enter Tryd.func19, Tryd.ntmps19
  go_wp2_with ((with_reducible refine hN.mono ?_); rintro e w' ⟨rfl, rfl⟩)
  go_ret2
  exact ⟨rfl, rfl⟩

theorem SlabM.at_some (h : SlabM w s b quota L p wd) (k j : Nat) (hk : k ∈ L) (hj : j < 64) (h1 : 64 * k + j ≤ 67108863) :
    Calls Tryd.prog 19 #[.pointer (some ⟨s, 0, none⟩), .int .i64 ((64 * k + j : Nat) : Int)] w fun e w' => e = .returned (.tuple #[.pointer (some ⟨p k, j, none⟩), .int .i64 0]) ∧ w = w' := by
  have hN := h.there
  have c1 := h.c1
  have hl := h.look hk
  obtain ⟨a, ha⟩ : ∃ a : Int, ((64 * k + j : Nat) : Int) = a := ⟨_, rfl⟩
  have e1 : a / 64 = (k : Int) := by omega
  have e2 : a % 64 = (j : Int) := by omega
  have h0 : 0 ≤ a := by omega
  have h2 : a ≤ 67108863 := by omega
  rw [ha]
  have d1 : decide (a < 0) = false := ltF h0
  have d2 : decide (67108863 < a) = false := ltF h2
  clear h hk ha h1
  go_enter Tryd.func19, Tryd.ntmps19
  go_wp2_with ((with_reducible refine hN.mono ?_); rintro e w' ⟨rfl, rfl⟩)
  go_ret2
  exact ⟨rfl, rfl⟩
end

/-- What is known of an arena. -/
theorem Sep.sGet (h : Sep F0 w0 w Ps) (i : Nat) {s : Nat} {S : Slb} (hi : Ps[i]? = some (slabR s S)) : ∃ b p, SlabM w s b S.quota S.pg p S.wd ∧ S.Ok ∧
    ∀ (w' : World) (b' : Nat) (p' : Nat → Nat) (S' : Slb), SlabM w' s b' S'.quota S'.pg p' S'.wd → S'.Ok → Mod (SFoot s b S.pg p) w w' → (∀ k, SFoot s b' S'.pg p' k → SFoot s b S.pg p k ∨ w.heap.size ≤ k) → Sep F0 w0 w' (Ps.set i (slabR s S')) := by
  obtain ⟨F, ⟨b, p, hM, hS, hF⟩, _, back⟩ := h.at_ i hi
  exact ⟨b, p, hM, hS, fun w' b' p' S' h1 h2 h3 h4 => back (slabR s S') w' (SFoot s b' S'.pg p') ⟨b', p', h1, h2, rfl⟩ (by rw [hF]; exact h3) (by rw [hF]; exact h4)⟩

theorem Sep.sOk (h : Sep F0 w0 w Ps) (i : Nat) {s : Nat} {S : Slb} (hi : Ps[i]? = some (slabR s S)) : S.Ok := by
  obtain ⟨_, _, _, hS, _⟩ := h.sGet i hi
  exact hS

theorem Sep.sThere (h : Sep F0 w0 w Ps) (i : Nat) {s : Nat} {S : Slb} (hi : Ps[i]? = some (slabR s S)) :
    Calls Tryd.prog 18 #[.pointer (some ⟨s, 0, none⟩)] w fun e w' => e = .returned (.bool false) ∧ w = w' := by
  obtain ⟨_, _, hM, _⟩ := h.sGet i hi
  exact hM.there

theorem SlabM.at_err {s b : Nat} {S : Slb} {p : Nat → Nat} (h : SlabM w s b S.quota S.pg p S.wd) (a : Int) {er : Int} (he : S.err a = er) (hne : er ≠ 0) :
    Calls Tryd.prog 19 #[.pointer (some ⟨s, 0, none⟩), .int .i64 a] w fun e w' => e = .returned (.tuple #[.pointer none, .int .i64 er]) ∧ w = w' := by
  unfold Slb.err at he
  split at he
  · rename_i hc
    subst he
    exact h.at_bad a hc
  split at he
  · exact absurd he.symm hne
  · rename_i hc hh
    subst he
    refine h.at_none a (by omega) (by omega) fun hin => hh (Slb.has_iff.2 ⟨by omega, hin⟩)

/-- Read. -/
theorem Sep.sRead (h : Sep F0 w0 w Ps) (i : Nat) {s : Nat} {S : Slb} (hi : Ps[i]? = some (slabR s S)) (a : Int) {x er : Int} (r : S.read a = (x, er)) :
    Calls Tryd.prog 20 #[.pointer (some ⟨s, 0, none⟩), .int .i64 a] w fun e w' => e = .returned (.tuple #[.int .u64 x, .int .i64 er]) ∧ w = w' := by
  obtain ⟨b, p, hM, hS, _⟩ := h.sGet i hi
  clear h hi
  unfold Slb.read at r
  split at r
  · rename_i he
    cases r
    obtain ⟨h0, h1, hin⟩ := Slb.err_zero he
    have ha : ((64 * (a.toNat / 64) + a.toNat % 64 : Nat) : Int) = a := by omega
    have hc := hM.at_some (a.toNat / 64) (a.toNat % 64) hin (Nat.mod_lt _ (by omega)) (by omega)
    have hw := hM.word hin (Nat.mod_lt a.toNat (show 0 < 64 by omega))
    rw [ha] at hc
    rw [show 64 * (a.toNat / 64) + a.toNat % 64 = a.toNat by omega] at hw
    generalize S.wd a.toNat = x at *
    generalize p (a.toNat / 64) = q at *
    generalize a.toNat % 64 = j at *
    clear hM hS he hin ha h0 h1
    go_enter Tryd.func20, Tryd.ntmps20
    go_wp2_with ((with_reducible refine hc.mono ?_); rintro e w' ⟨rfl, rfl⟩)
    go_ret2
    exact ⟨rfl, rfl⟩
  · rename_i he
    cases r
    have hc := hM.at_err a rfl he
    have hb : (S.err a != 0) = true := bneT he
    generalize S.err a = er at *
    clear hM hS he
    go_enter Tryd.func20, Tryd.ntmps20
    go_wp2_with ((with_reducible refine hc.mono ?_); rintro e w' ⟨rfl, rfl⟩)
    go_ret2
    exact ⟨rfl, rfl⟩

/-- Write. -/
theorem Sep.sWrite (h : Sep F0 w0 w Ps) (i : Nat) {s : Nat} {S : Slb} (hi : Ps[i]? = some (slabR s S)) (a v : Int) (v0 : 0 ≤ v) (v1 : v < 18446744073709551616) {er : Int} {S' : Slb} (r : S.write a v = (er, S')) :
    Calls Tryd.prog 7 #[.pointer (some ⟨s, 0, none⟩), .int .i64 a, .int .u64 v] w fun e w' => e = .returned (.int .i64 er) ∧ Sep F0 w0 w' (Ps.set i (slabR s S')) := by
  obtain ⟨b, p, hM, hS, back⟩ := h.sGet i hi
  have hok := Slb.write_ok hS a v v0 v1
  rw [r] at hok
  unfold Slb.write at r
  split at r
  · rename_i he
    cases r
    obtain ⟨h0, h1, hin⟩ := Slb.err_zero he
    have ha : ((64 * (a.toNat / 64) + a.toNat % 64 : Nat) : Int) = a := by omega
    have hj := Nat.mod_lt a.toNat (show 0 < 64 by omega)
    have hc := hM.at_some (a.toNat / 64) (a.toNat % 64) hin hj (by omega)
    have hw := hM.word hin hj
    have hf := hM.fz hin (a.toNat % 64)
    have hp := hM.put hin hj v
    rw [show 64 * (a.toNat / 64) + a.toNat % 64 = a.toNat by omega] at hp
    rw [ha] at hc
    have hfin := Lib.hid (back _ b p { S with wd := fun x => if x = a.toNat then v else S.wd x } hp hok ((Mod.refl _ w).setCell _ _ (.inl (.inr (.inr ⟨_, hin, rfl⟩)))) (fun k hk => .inl hk))
    generalize S.wd (64 * (a.toNat / 64) + a.toNat % 64) = x at *
    generalize p (a.toNat / 64) = q at *
    generalize a.toNat % 64 = j at *
    clear hM hS he hin ha h0 h1 hp hj h hi back hok
    go_enter Tryd.func7, Tryd.ntmps7
    go_wp2_with ((with_reducible refine hc.mono ?_); rintro e w' ⟨rfl, rfl⟩)
    go_ret
    exact ⟨rfl, hfin.out⟩
  · rename_i he
    cases r
    have hc := hM.at_err a rfl he
    have hb : (S.err a == 0) = false := beqF he
    have hfin := Lib.hid (back w b p S hM hS (Mod.refl _ w) (fun k hk => .inl hk))
    generalize S.err a = er at *
    clear hM hS he h hi back hok
    go_enter Tryd.func7, Tryd.ntmps7
    go_wp2_with ((with_reducible refine hc.mono ?_); rintro e w' ⟨rfl, rfl⟩)
    go_ret
    exact ⟨rfl, hfin.out⟩

/-- Is. -/
theorem Sep.sIs (h : Sep F0 w0 w Ps) (i : Nat) {s : Nat} {S : Slb} (hi : Ps[i]? = some (slabR s S)) (n : Int) (n0 : -9223372036854775808 ≤ n) (n1 : n ≤ 9223372036854775807) :
    Calls Tryd.prog 11 #[.pointer (some ⟨s, 0, none⟩), .int .i64 n] w fun e w' => e = .returned (.bool (S.has n)) ∧ w = w' := by
  obtain ⟨b, p, hM, hS, _⟩ := h.sGet i hi
  have hN := hM.there
  have c1 := hM.c1
  cases hh : S.has n with
  | true =>
    obtain ⟨h0, hin⟩ := Slb.has_iff.1 hh
    have hl := hM.look hin
    rw [show ((n.toNat : Nat) : Int) = n by omega] at hl
    generalize p n.toNat = q at *
    clear h hi hM hS hh hin
    go_enter Tryd.func11, Tryd.ntmps11
    go_wp2_with ((with_reducible refine hN.mono ?_); rintro e w' ⟨rfl, rfl⟩)
    go_ret
    exact ⟨rfl, rfl⟩
  | false =>
    have hl := hM.miss (n := n) (fun k hk e => by
      have : S.has n = true := Slb.has_iff.2 ⟨by omega, by rw [show n.toNat = k by omega]; exact hk⟩
      rw [hh] at this
      cases this) n0 n1
    clear h hi hM hS hh
    go_enter Tryd.func11, Tryd.ntmps11
    go_wp2_with ((with_reducible refine hN.mono ?_); rintro e w' ⟨rfl, rfl⟩)
    go_ret
    exact ⟨rfl, rfl⟩

/-- New. -/
theorem snew_no (q : Int) (h : q < 0 ∨ 262144 < q) (w : World) :
    Calls Tryd.prog 5 #[.int .i64 q] w fun e w' => e = .returned (.tuple #[.pointer none, .int .i64 2]) ∧ w = w' := by
  rcases h with h | h
  · have d1 : decide (q < 0) = true := ltT h
    clear h
    go_enter Tryd.func5, Tryd.ntmps5
    go_wp2
    go_ret2
    exact ⟨rfl, rfl⟩
  · have d1 : decide (q < 0) = false := ltF (by omega)
    have d2 : decide (262144 < q) = true := ltT h
    clear h
    go_enter Tryd.func5, Tryd.ntmps5
    go_wp2
    go_ret2
    exact ⟨rfl, rfl⟩

/-- An arena without pages. -/
def Slb.empty (q : Int) : Slb := ⟨q, [], fun _ => 0⟩
theorem Slb.empty_ok {q : Int} (h0 : 0 ≤ q) (h1 : q ≤ 262144) : (Slb.empty q).Ok :=
  ⟨h0, h1, by show 64 * ((0 : Nat) : Int) ≤ q; omega, List.Pairwise.nil, by simp [Slb.empty], fun a => ⟨Int.le_refl 0, by show (0 : Int) < _; omega⟩, fun _ _ => rfl⟩

theorem Sep.sNew (h : Sep F0 w0 w Ps) (q : Int) (h0 : 0 ≤ q) (h1 : q ≤ 262144) :
    Calls Tryd.prog 5 #[.int .i64 q] w fun e w' => e = .returned (.tuple #[.pointer (some ⟨w.heap.size + 1, 0, none⟩), .int .i64 0]) ∧ Sep F0 w0 w' (Ps ++ [slabR (w.heap.size + 1) (Slb.empty q)]) := by
  have d1 : decide (q < 0) = false := ltF h0
  have d2 : decide (262144 < q) = false := ltF h1
  have hmm := @run_makeMap Tryd.prog
  have hfin := Lib.hid (show Sep F0 w0 ((w.alloc (.map #[] 0)).alloc (.cells #[.int .i64 q, .map (some w.heap.size)] 55)) (Ps ++ [slabR (w.heap.size + 1) (Slb.empty q)]) from by
    refine h.push (slabR (w.heap.size + 1) (Slb.empty q)) (SFoot (w.heap.size + 1) w.heap.size [] (fun _ => 0)) ⟨w.heap.size, fun _ => 0, ?_, Slb.empty_ok h0 h1, rfl⟩ (((Mod.refl _ w).alloc _).alloc _) (fun k hk => ?_)
    · refine ⟨by have := heap_alloc_new (w.alloc (.map #[] 0)) (.cells #[.int .i64 q, .map (some w.heap.size)] 55); rw [World.size_alloc] at this; exact this, ⟨.map [], ?_, MapIs.nil _⟩, by simp [Slb.empty], by simp [Slb.empty], List.nodup_nil, by simp [Slb.empty], rfl⟩
      exact (World.ownsMap_made w Tryd.prog 3 ptrElem).alloc _
    · rcases hk with rfl | rfl | ⟨k, hk, _⟩
      · omega
      · exact Nat.le_refl _
      · simp at hk)
  clear h h0 h1
  go_enter Tryd.func5, Tryd.ntmps5
  go_wp2
  go_ret2
  exact ⟨rfl, hfin.out⟩
end Go.Proofs.YtfmkiioahnphbaaDoor

namespace Go.Proofs.YtfmkiioahnphbaaDoor
open Go Go.RowKit

variable {F0 : Nat → Prop} {w0 w : World} {Ps : List Res}


set_option maxRecDepth 100000 in
theorem Sep.sClaim (h : Sep F0 w0 w Ps) (i : Nat) {s : Nat} {S : Slb} (hi : Ps[i]? = some (slabR s S)) (n : Int) (n0 : -9223372036854775808 ≤ n) (n1 : n ≤ 9223372036854775807) {er : Int} {S' : Slb} (r : S.claim n = (er, S')) :
    Calls Tryd.prog 6 #[.pointer (some ⟨s, 0, none⟩), .int .i64 n] w fun e w' => e = .returned (.int .i64 er) ∧ Sep F0 w0 w' (Ps.set i (slabR s S')) := by
  obtain ⟨b, p, hM, hS, back⟩ := h.sGet i hi
  have hfin := Lib.hid (back w b p S hM hS (Mod.refl _ w) (fun k hk => .inl hk))
  have hok := Slb.claim_ok hS n
  have hN := hM.there
  have c1 := hM.c1
  have c0 := hM.c0
  rw [r] at hok
  unfold Slb.claim at r
  have hq := hS.q1
  have hfit := hS.fit
  have hlen : (0 : Int) ≤ (S.pg.length : Int) ∧ (S.pg.length : Int) ≤ 4096 := by omega
  have hln := fun m ty => hM.len ty (w.drewN m) rfl
  by_cases g1 : n < 0
  · rw [if_pos (.inl g1)] at r
    cases r
    have d1 : decide (n < 0) = true := ltT g1
    clear h hi hM hS back hok hln g1
    go_enter Tryd.func6, Tryd.ntmps6
    go_wp2_with ((with_reducible refine hN.mono ?_); rintro e w' ⟨rfl, rfl⟩)
    go_ret
    exact ⟨rfl, hfin.out⟩
  by_cases g1' : 1048575 < n
  · rw [if_pos (.inr g1')] at r
    cases r
    have d1 : decide (n < 0) = false := ltF (by omega)
    have d2 : decide (1048575 < n) = true := ltT g1'
    clear h hi hM hS back hok hln g1 g1'
    go_enter Tryd.func6, Tryd.ntmps6
    go_wp2_with ((with_reducible refine hN.mono ?_); rintro e w' ⟨rfl, rfl⟩)
    go_ret
    exact ⟨rfl, hfin.out⟩
  rw [if_neg (by omega)] at r
  have d1 : decide (n < 0) = false := ltF (by omega)
  have d2 : decide (1048575 < n) = false := ltF (by omega)
  have hn0 : 0 ≤ n := by omega
  have hn1 : n ≤ 1048575 := by omega
  by_cases g2 : S.has n = true
  · rw [if_pos g2] at r
    cases r
    have hl := hM.look (Slb.has_iff.1 g2).2
    rw [show ((n.toNat : Nat) : Int) = n by omega] at hl
    clear h hi hM hS back hok hln g1 g1' g2
    go_enter Tryd.func6, Tryd.ntmps6
    go_wp2_with ((with_reducible refine hN.mono ?_); rintro e w' ⟨rfl, rfl⟩)
    go_ret
    exact ⟨rfl, hfin.out⟩
  rw [if_neg g2] at r
  have hl := hM.miss (n := n) (fun k hk e => g2 (Slb.has_iff.2 ⟨by omega, by rw [show n.toNat = k by omega]; exact hk⟩)) n0 n1
  by_cases g3 : S.quota < (S.pg.length + 1) * 64
  · rw [if_pos g3] at r
    cases r
    have d3 : decide (S.quota < ((S.pg.length : Int) + 1) * 64) = true := ltT g3
    have hfin := Lib.hid (fun w' (hm : Mod No w w') => hfin.out.more hm)
    clear h hi hM hS back hok g1 g1' g2 g3
    go_enter Tryd.func6, Tryd.ntmps6
    go_wp2_with ((with_reducible refine hN.mono ?_); rintro e w' ⟨rfl, rfl⟩)
    refine wp_region_quiet_lit (by kernel_rfl) (by kernel_rfl) ?_
    repeat (go_big_quiet_step (fail))
    refine wpQuiet_nil ?_
    intro wq hwq
    obtain ⟨nq, hwq⟩ := hwq
    have hq := Mod.of_drewN hwq
    clear hwq nq
    have HQ := Lib.hid hq
    clear hq
    go_wp2
    go_ret
    exact ⟨rfl, hfin.out _ HQ.out⟩
  rw [if_neg g3] at r
  cases r
  have d3 : decide (S.quota < ((S.pg.length : Int) + 1) * 64) = false := ltF (by omega)
  have hnk : n.toNat ∉ S.pg := fun hin => g2 (Slb.has_iff.2 ⟨by omega, hin⟩)
  have H := Lib.hid (And.intro hM (And.intro back (And.intro hok (And.intro hS hnk))))
  clear hM back hok h hi hfin g1 g1' g2 g3 hS hnk
  go_enter Tryd.func6, Tryd.ntmps6
  go_wp2_with ((with_reducible refine hN.mono ?_); rintro e w' ⟨rfl, rfl⟩)
  refine wp_region_quiet_lit (by kernel_rfl) (by kernel_rfl) ?_
  repeat (go_big_quiet_step (fail))
  refine wpQuiet_nil ?_
  intro wq hwq
  obtain ⟨nq, hwq⟩ := hwq
  have hq := Mod.of_drewN hwq
  clear hwq nq
  obtain ⟨hM, back, hok, hS, hnk⟩ := H.out
  have hM2 : SlabM wq s b S.quota S.pg p S.wd := hM.keep fun k hk => hq.block k (hM.lt k hk) (fun x => x)
  have c1 := hM2.c1
  have HQ := Lib.hid hq
  have HB := Lib.hid back
  clear hM back hq c0
  go_wp2_with (at_mapUpdate; refine wpList_newPage hM2 (by rfl) _ _ _ (by rfl) (by rfl) n.toNat n (by rfl) (by omega) hnk (by omega) (fun j hj => hS.zero _ (by rw [show (64 * n.toNat + j) / 64 = n.toNat by omega]; exact hnk)) (by omega) _ (by rfl) (by first | rfl | simp) _ (by rfl) ?_)
  intro w2 hM3 hm3
  have hf := Slb.free_one hnk
  have hp : (n.toNat :: S.pg).Perm (Slb.more S.pg n.toNat 1) := (Slb.more_perm hf).symm
  have hfin := Lib.hid (HB.out w2 b _ { S with pg := Slb.more S.pg n.toNat 1 } (hM3.perm hp) hok ((((Mod.refl _ w).trans' (HQ.out.mono fun _ _ x => x.elim))).trans (hm3.mono fun k _ hk => .inl (.inr (.inl hk)))) (fun k hk => by
    have hsz := HQ.out.size
    rcases hk with rfl | rfl | ⟨j, hj, rfl⟩
    · exact .inl (.inl rfl)
    · exact .inl (.inr (.inl rfl))
    · dsimp only
      by_cases e : j = n.toNat
      · rw [if_pos e]; exact .inr hsz
      · rw [if_neg e]
        refine .inl (.inr (.inr ⟨j, ?_, rfl⟩))
        rcases (Slb.mem_more hf).1 hj with hj | hj
        · exact hj
        · omega))
  clear hM2 hM3 hm3 hS hnk hf hp HB hok
  go_wp2
  go_ret
  exact ⟨rfl, hfin.out⟩

def addsL (pg : List Nat) (f : Nat) : Nat → List Nat
  | 0 => pg
  | k + 1 => (f + k) :: addsL pg f k
theorem addsL_perm (pg : List Nat) (f : Nat) : ∀ k, (addsL pg f k).Perm ((List.range k).map (f + ·) ++ pg)
  | 0 => List.Perm.refl _
  | k + 1 => by
    rw [addsL, List.range_succ, List.map_append, List.append_assoc]
    refine (List.Perm.cons _ (addsL_perm pg f k)).trans ?_
    exact (List.perm_middle).symm
theorem addsL_mem (pg : List Nat) (f k x : Nat) : x ∈ addsL pg f k ↔ x ∈ pg ∨ f ≤ x ∧ x < f + k := by
  rw [(addsL_perm pg f k).mem_iff]
  simp only [List.mem_append, List.mem_map, List.mem_range]
  constructor
  · rintro (⟨j, hj, rfl⟩ | h)
    · exact .inr ⟨by omega, by omega⟩
    · exact .inl h
  · rintro (h | h)
    · exact .inr h
    · exact .inl ⟨x - f, by omega, by omega⟩
theorem addsL_len (pg : List Nat) (f k : Nat) : (addsL pg f k).length = k + pg.length := by
  rw [(addsL_perm pg f k).length_eq]; simp

theorem count_step (pg : List Nat) {f g : Nat} (hfg : f ≤ g) (hg : g ∈ pg) : (pg.filter fun k => decide (k < f)).length + 1 ≤ (pg.filter fun k => decide (k < g + 1)).length := by
  have e : pg.filter (fun k => decide (k < f)) = (pg.filter fun k => decide (k < g + 1)).filter (fun k => decide (k < f)) := by
    rw [List.filter_filter]
    apply List.filter_congr
    intro j _
    by_cases hj : j < f
    · have : j < g + 1 := by omega
      simp [hj, this]
    · simp [hj]
  rw [e]
  have : ((pg.filter fun k => decide (k < g + 1)).filter (fun k => decide (k < f))).length < (pg.filter fun k => decide (k < g + 1)).length := by
    rw [List.length_filter_lt_length_iff_exists]
    exact ⟨g, List.mem_filter.2 ⟨hg, by simp⟩, by simp; omega⟩
  omega

set_option maxRecDepth 100000 in
theorem sGrant_err (h : Sep F0 w0 w Ps) (i : Nat) {s : Nat} {S : Slb} (hi : Ps[i]? = some (slabR s S)) (n : Int) {f er : Int} {S' : Slb} (r : S.grant n = (f, er, S')) (hbad : n < 1 ∨ 4096 < n ∨ S.quota < (S.pg.length + n) * 64) :
    Calls Tryd.prog 37 #[.pointer (some ⟨s, 0, none⟩), .int .i64 n] w fun e w' => e = .returned (.tuple #[.int .i64 f, .int .i64 er]) ∧ Sep F0 w0 w' (Ps.set i (slabR s S')) := by
  obtain ⟨b, p, hM, hS, back⟩ := h.sGet i hi
  have hfin := Lib.hid (back w b p S hM hS (Mod.refl _ w) (fun k hk => .inl hk))
  have hN := hM.there
  have c1 := hM.c1
  have c0 := hM.c0
  unfold Slb.grant at r
  have hq := hS.q1
  have hfit := hS.fit
  have hlen : (0 : Int) ≤ (S.pg.length : Int) ∧ (S.pg.length : Int) ≤ 4096 := by omega
  have hln := fun m ty => hM.len ty (w.drewN m) rfl
  by_cases g1 : n < 1
  · rw [if_pos (.inl g1)] at r
    cases r
    have d1 : decide (n < 1) = true := ltT g1
    clear h hi hM hS back hln g1 hbad
    go_enter Tryd.func37, Tryd.ntmps37
    go_wp2
    go_step3
    go_wp2_with ((with_reducible refine hN.mono ?_); rintro e w' ⟨rfl, rfl⟩)
    try rw [Exit.noGoto_ret]
    go_ret2
    exact ⟨rfl, hfin.out⟩
  by_cases g1' : 4096 < n
  · rw [if_pos (.inr g1')] at r
    cases r
    have d1 : decide (n < 1) = false := ltF (by omega)
    have d2 : decide (4096 < n) = true := ltT g1'
    clear h hi hM hS back hln g1 g1' hbad
    go_enter Tryd.func37, Tryd.ntmps37
    go_wp2
    go_step3
    go_wp2_with ((with_reducible refine hN.mono ?_); rintro e w' ⟨rfl, rfl⟩)
    try rw [Exit.noGoto_ret]
    go_ret2
    exact ⟨rfl, hfin.out⟩
  rw [if_neg (by omega)] at r
  have d1 : decide (n < 1) = false := ltF (by omega)
  have d2 : decide (4096 < n) = false := ltF (by omega)
  have hn0 : 1 ≤ n := by omega
  have hn1 : n ≤ 4096 := by omega
  have g3 : S.quota < (S.pg.length + n) * 64 := by omega
  rw [if_pos g3] at r
  cases r
  have d3 : decide (S.quota < ((S.pg.length : Int) + n) * 64) = true := ltT g3
  have hfin := Lib.hid (fun w' (hm : Mod No w w') => hfin.out.more hm)
  clear h hi hM hS back g1 g1' g3 hbad
  go_enter Tryd.func37, Tryd.ntmps37
  go_wp2
  go_step3
  go_wp2_with ((with_reducible refine hN.mono ?_); rintro e w' ⟨rfl, rfl⟩)
  refine wp_region_quiet_lit (by kernel_rfl) (by kernel_rfl) ?_
  repeat (go_big_quiet_step (fail))
  refine wpQuiet_nil ?_
  intro wq hwq
  obtain ⟨nq, hwq⟩ := hwq
  have hq := Mod.of_drewN hwq
  clear hwq nq
  have HQ := Lib.hid hq
  clear hq
  go_wp2
  try rw [Exit.noGoto_ret]
  go_ret2
  exact ⟨rfl, hfin.out _ HQ.out⟩

/-- What a granting run has come to: k pages from f on are there. -/
structure GrantM (w : World) (s b : Nat) (S : Slb) (p : Nat → Nat) (f k : Nat) (wr : World) (p' : Nat → Nat) : Prop where
  mem : SlabM wr s b S.quota (addsL S.pg f k) p' S.wd
  mod : Mod (SFoot s b S.pg p) w wr
  old : ∀ j ∈ S.pg, p' j = p j
  fresh : ∀ j, f ≤ j → j < f + k → w.heap.size ≤ p' j

set_option maxRecDepth 100000 in
set_option maxHeartbeats 1000000 in
theorem sGrant_ok (h : Sep F0 w0 w Ps) (i : Nat) {s : Nat} {S : Slb} (hi : Ps[i]? = some (slabR s S)) (n : Nat) (h1 : 1 ≤ n) (h2 : n ≤ 4096) (h3 : (S.pg.length + n : Int) * 64 ≤ S.quota) :
    Calls Tryd.prog 37 #[.pointer (some ⟨s, 0, none⟩), .int .i64 n] w fun e w' => e = .returned (.tuple #[.int .i64 (Slb.least S.pg n), .int .i64 0]) ∧ Sep F0 w0 w' (Ps.set i (slabR s { S with pg := Slb.more S.pg (Slb.least S.pg n) n })) := by
  obtain ⟨b, p, hM, hS, back⟩ := h.sGet i hi
  have hN := hM.there
  have c1 := hM.c1
  have c0 := hM.c0
  have hq := hS.q1
  have hfit := hS.fit
  have hlen : (0 : Int) ≤ (S.pg.length : Int) ∧ (S.pg.length : Int) ≤ 4096 := by omega
  have hln := fun m ty => hM.len ty (w.drewN m) rfl
  have d1 : decide ((n : Int) < 1) = false := ltF (by omega)
  have d2 : decide ((4096 : Int) < (n : Int)) = false := ltF (by omega)
  have d3 : decide (S.quota < ((S.pg.length : Int) + (n : Int)) * 64) = false := ltF (by omega)
  have hlenN : S.pg.length ≤ 4096 := by omega
  have hfb := Lib.hid (fun (f : Nat) (hf : f ≤ n * (S.pg.filter fun k => decide (k < f)).length) => (show f ≤ 16777216 from by
    have h4 := List.length_filter_le (fun k => decide (k < f)) S.pg
    have h5 : n * (S.pg.filter fun k => decide (k < f)).length ≤ 4096 * 4096 := Nat.mul_le_mul h2 (by omega)
    omega))
  have H := Lib.hid (And.intro hM (And.intro back hS))
  clear h hi hM hS back
  go_enter Tryd.func37, Tryd.ntmps37
  go_wp2
  go_step3
  go_wp2_with ((with_reducible refine hN.mono ?_); rintro e w' ⟨rfl, rfl⟩)
  refine wp_region_quiet_lit (by kernel_rfl) (by kernel_rfl) ?_
  repeat (go_big_quiet_step (fail))
  refine wpQuiet_nil ?_
  intro wq hwq
  obtain ⟨nq, hwq⟩ := hwq
  have hq := Mod.of_drewN hwq
  clear hwq nq
  have hM2 : SlabM wq s b S.quota S.pg p S.wd := H.out.1.keep fun k hk => hq.block k (H.out.1.lt k hk) (fun x => x)
  have c1 := hM2.c1
  have HQ := Lib.hid (And.intro hq hM2)
  clear hq c0 hM2 hln
  go_wp2_with fail
  go_step3
  go_wp2_with fail
  go_loop [6] (fun fr => ∃ f : Nat, fr = .int .i64 f ∧ f ≤ n * (S.pg.filter fun k => decide (k < f)).length ∧ ∀ g, g < f → Slb.freeB S.pg g n = false) (fun fr => 16777217 - (RowKit.intOf fr).toNat)
  case atStart => exact ⟨0, rfl, Nat.zero_le _, by intro g hg; omega⟩
  case round =>
    obtain ⟨f, rfl, hf, hbef⟩ := hrel
    have hfm := hfb.out f hf
    have HF := Lib.hid (And.intro hf hbef)
    clear hf hbef
    go_wp2_with fail
    go_loop [6, 34] (fun fr ix => fr = .int .i64 f ∧ ∃ k : Nat, ix = .int .i64 k ∧ k ≤ n ∧ ∀ i, i < k → f + i ∉ S.pg) (fun _ ix => n - (RowKit.intOf ix).toNat)
    case atStart => exact ⟨rfl, 0, rfl, Nat.zero_le _, by intro i hi; omega⟩
    case round =>
      obtain ⟨rfl, k, rfl, hk, hno⟩ := hrel
      have HNO := Lib.hid hno
      clear hno
      by_cases hlt : k < n
      · by_cases hin : f + k ∈ S.pg
        · have hl := HQ.out.2.look hin
          rw [Int.natCast_add] at hl
          have HI := Lib.hid hin
          clear hin
          go_wp2
          go_round
          case rel =>
            refine ⟨f + (k + 1), by go_num, ?_, fun g hg => ?_⟩
            · have := count_step S.pg (show f ≤ f + k by omega) HI.out
              have h6 := HF.out.1
              have h7 : n * ((S.pg.filter fun k => decide (k < f)).length + 1) ≤ n * (S.pg.filter fun j => decide (j < f + k + 1)).length := Nat.mul_le_mul_left _ this
              rw [Nat.mul_add] at h7
              show f + (k + 1) ≤ n * (S.pg.filter fun j => decide (j < f + (k + 1))).length
              rw [show f + (k + 1) = f + k + 1 by omega]
              omega
            · rcases Nat.lt_or_ge g f with h8 | h8
              · exact HF.out.2 g h8
              · cases hc : Slb.freeB S.pg g n with
                | false => rfl
                | true =>
                  rcases Slb.freeB_iff.1 hc (f + k) HI.out with h9 | h9
                  · omega
                  · omega
          case measure => simp [RowKit.intOf]; omega
        · have hl := HQ.out.2.miss (n := (f : Int) + (k : Int)) (fun j hj e => hin (by rw [show f + k = j by omega]; exact hj)) (by omega) (by omega)
          have HI := Lib.hid hin
          clear hin
          go_wp2
          go_round
          case rel => exact ⟨rfl, k + 1, by go_num, by omega, fun i hi => by
            rcases Nat.lt_or_ge i k with h8 | h8
            · exact HNO.out i h8
            · rw [show i = k by omega]; exact HI.out⟩
          case measure => simp [RowKit.intOf]; omega
      · obtain rfl : k = n := by omega
        have hfree : Slb.freeB S.pg f k = true := Slb.freeB_iff.2 fun j hj => by
          rcases Nat.lt_or_ge j f with h8 | h8
          · exact .inl h8
          · rcases Nat.lt_or_ge j (f + k) with h9 | h9
            · exact absurd (by rw [show f + (j - f) = j by omega]; exact hj) (HNO.out (j - f) (by omega))
            · exact .inr h9
        have hle : Slb.least S.pg k = f := Slb.least_eq h1 hfree HF.out.2
        have HL := Lib.hid (And.intro hle hfree)
        have hst := Lib.hid (show ∃ p', GrantM w s b S p f 0 wq p' from ⟨p, HQ.out.2, (Mod.refl _ w).trans' (HQ.out.1.mono fun _ _ x => x.elim), fun _ _ => rfl, fun j a c => by omega⟩)
        clear hle hfree HNO HF hfb
        go_wp2_with fail
        go_loopw [52] (fun ix wr => ∃ j : Nat, ix = .int .i64 j ∧ j ≤ k ∧ ∃ p', GrantM w s b S p f j wr p') (fun ix _ => k - (RowKit.intOf ix).toNat)
        case atStart => exact ⟨0, rfl, Nat.zero_le _, hst.out⟩
        case round =>
          obtain ⟨j, rfl, hj, p', hg⟩ := hrel
          clear hst
          by_cases hlt2 : j < k
          · have c1 := hg.mem.c1
            have hnk : f + j ∉ addsL S.pg f j := fun hin => by
              rcases (addsL_mem _ _ _ _).1 hin with hin | hin
              · rcases Slb.freeB_iff.1 HL.out.2 (f + j) hin with h8 | h8 <;> omega
              · omega
            have hz : ∀ m, m < 64 → S.wd (64 * (f + j) + m) = 0 := fun m hm => H.out.2.2.zero _ (by
              rw [show (64 * (f + j) + m) / 64 = f + j by omega]
              intro hin
              exact hnk ((addsL_mem _ _ _ _).2 (.inl hin)))
            have hmm := hg.mem
            have hll : (addsL S.pg f j).length ≤ 1000000 := by rw [addsL_len]; omega
            have HG := Lib.hid (And.intro hg (And.intro hnk hz))
            clear hg
            go_wp2_with (at_mapUpdate; refine wpList_newPage hmm (by rfl) _ _ _ (by rfl) (by rfl) (f + j) ((f : Int) + (j : Int)) (by rfl) (by omega) hnk (by omega) hz hll _ (by rfl) (by first | rfl | simp) _ (by rfl) ?_)
            intro w2 hM3 hm3
            have hfin := Lib.hid (show ∃ p', GrantM w s b S p f (j + 1) w2 p' from by
              obtain ⟨hg, hnk, hz⟩ := HG.out
              refine ⟨_, hM3, hg.mod.trans (hm3.mono fun x _ hx => .inl (.inr (.inl hx))), fun y hy => ?_, fun y hy1 hy2 => ?_⟩
              · have : y ≠ f + j := fun e => hnk (e ▸ (addsL_mem _ _ _ _).2 (.inl hy))
                rw [if_neg this]
                exact hg.old y hy
              · by_cases e : y = f + j
                · rw [if_pos e]; exact hg.mod.size
                · rw [if_neg e]; exact hg.fresh y hy1 (by omega))
            clear hM3 hm3 hmm hnk hz hll c1
            go_wp2
            go_roundw
            case rel => exact ⟨j + 1, by go_num, by omega, hfin.out⟩
            case measure => simp [RowKit.intOf]; omega
          · obtain rfl : j = k := by omega
            have hfin := Lib.hid (show Sep F0 w0 wr (Ps.set i (slabR s { S with pg := Slb.more S.pg (Slb.least S.pg j) j })) from by
              obtain ⟨hM, back, hS⟩ := H.out
              obtain ⟨hle, hfree⟩ := HL.out
              rw [hle]
              have hok : ({ S with pg := Slb.more S.pg f j } : Slb).Ok := Slb.more_ok hS hfree h3 (by omega)
              refine back wr b p' { S with pg := Slb.more S.pg f j } (hg.mem.perm ((addsL_perm _ _ _).trans (Slb.more_perm hfree).symm)) hok hg.mod (fun x hx => ?_)
              rcases hx with rfl | rfl | ⟨y, hy, rfl⟩
              · exact .inl (.inl rfl)
              · exact .inl (.inr (.inl rfl))
              · rcases (Slb.mem_more hfree).1 hy with hy | hy
                · rw [hg.old y hy]; exact .inl (.inr (.inr ⟨y, hy, rfl⟩))
                · exact .inr (hg.fresh y hy.1 hy.2))
            clear hg
            go_wp2
            try rw [Exit.noGoto_ret]
            go_ret2
            exact ⟨by rw [HL.out.1]; rfl, hfin.out⟩
end Go.Proofs.YtfmkiioahnphbaaDoor

namespace Go.Proofs.YtfmkiioahnphbaaDoor
open Go Go.RowKit

variable {F0 : Nat → Prop} {w0 w : World} {Ps : List Res}


theorem sRelease_err (h : Sep F0 w0 w Ps) (i : Nat) {s : Nat} {S : Slb} (hi : Ps[i]? = some (slabR s S)) (f n : Int) (hn0 : -9223372036854775808 ≤ n) (hbad : n < 1 ∨ 4096 < n ∨ f < 0 ∨ 1048576 - n < f) :
    Calls Tryd.prog 41 #[.pointer (some ⟨s, 0, none⟩), .int .i64 f, .int .i64 n] w fun e w' => e = .returned (.int .i64 2) ∧ Sep F0 w0 w' (Ps.set i (slabR s S)) := by
  obtain ⟨b, p, hM, hS, back⟩ := h.sGet i hi
  have hfin := Lib.hid (back w b p S hM hS (Mod.refl _ w) (fun k hk => .inl hk))
  have hN := hM.there
  clear h hi hM hS back
  by_cases g1 : n < 1
  · have d1 : decide (n < 1) = true := ltT g1
    clear hbad g1
    go_enter Tryd.func41, Tryd.ntmps41
    go_wp2_with ((with_reducible refine hN.mono ?_); rintro e w' ⟨rfl, rfl⟩)
    go_ret
    exact ⟨rfl, hfin.out⟩
  have d1 : decide (n < 1) = false := ltF (by omega)
  by_cases g2 : 4096 < n
  · have d2 : decide (4096 < n) = true := ltT g2
    clear hbad g1 g2
    go_enter Tryd.func41, Tryd.ntmps41
    go_wp2_with ((with_reducible refine hN.mono ?_); rintro e w' ⟨rfl, rfl⟩)
    go_ret
    exact ⟨rfl, hfin.out⟩
  have d2 : decide (4096 < n) = false := ltF (by omega)
  by_cases g3 : f < 0
  · have d3 : decide (f < 0) = true := ltT g3
    clear hbad g1 g2 g3
    go_enter Tryd.func41, Tryd.ntmps41
    go_wp2_with ((with_reducible refine hN.mono ?_); rintro e w' ⟨rfl, rfl⟩)
    go_ret
    exact ⟨rfl, hfin.out⟩
  have d3 : decide (f < 0) = false := ltF (by omega)
  have d4 : decide (1048575 - n + 1 < f) = true := ltT (by omega)
  have n0 : 1 ≤ n := by omega
  have n1 : n ≤ 4096 := by omega
  clear hbad g1 g2 g3
  go_enter Tryd.func41, Tryd.ntmps41
  go_wp2_with ((with_reducible refine hN.mono ?_); rintro e w' ⟨rfl, rfl⟩)
  go_ret
  exact ⟨rfl, hfin.out⟩

set_option maxRecDepth 100000 in
set_option maxHeartbeats 1000000 in
theorem sRelease_main (h : Sep F0 w0 w Ps) (i : Nat) {s : Nat} {S : Slb} (hi : Ps[i]? = some (slabR s S)) (f n : Nat) (h1 : 1 ≤ n) (h2 : n ≤ 4096) (h3 : f + n ≤ 1048576) {er : Int} {S' : Slb} (r : S.release f n = (er, S')) :
    Calls Tryd.prog 41 #[.pointer (some ⟨s, 0, none⟩), .int .i64 f, .int .i64 n] w fun e w' => e = .returned (.int .i64 er) ∧ Sep F0 w0 w' (Ps.set i (slabR s S')) := by
  obtain ⟨b, p, hM, hS, back⟩ := h.sGet i hi
  have hok := Slb.release_ok hS f n
  rw [r] at hok
  unfold Slb.release at r
  rw [if_neg (by omega)] at r
  have hN := hM.there
  have c1 := hM.c1
  have d1 : decide ((n : Int) < 1) = false := ltF (by omega)
  have d2 : decide ((4096 : Int) < (n : Int)) = false := ltF (by omega)
  have d3 : decide ((f : Int) < 0) = false := ltF (by omega)
  have d4 : decide (1048575 - (n : Int) + 1 < (f : Int)) = false := ltF (by omega)
  have HALL := Lib.hid (show (List.range n).all (fun k => S.has (f + k)) = true ↔ ∀ k, k < n → f + k ∈ S.pg from by
    rw [List.all_eq_true]
    constructor
    · intro h k hk
      have := h k (List.mem_range.2 hk)
      rw [← Int.natCast_add] at this
      exact Slb.has_nat.1 this
    · intro h k hk
      rw [← Int.natCast_add]
      exact Slb.has_nat.2 (h k (List.mem_range.1 hk)))
  rw [Int.toNat_natCast, Int.toNat_natCast] at r
  have H := Lib.hid (And.intro hM (And.intro back (And.intro hS (And.intro hok r))))
  clear h hi hM hS back hok r
  go_enter Tryd.func41, Tryd.ntmps41
  go_wp2_with ((with_reducible refine hN.mono ?_); rintro e w' ⟨rfl, rfl⟩)
  go_loop [31] (fun ix => ∃ k : Nat, ix = .int .i64 k ∧ k ≤ n ∧ ∀ i, i < k → f + i ∈ S.pg) (fun ix => n - (RowKit.intOf ix).toNat)
  case atStart => exact ⟨0, rfl, Nat.zero_le _, by intro i hi; omega⟩
  case round =>
    obtain ⟨k, rfl, hk, hall⟩ := hrel
    have HA := Lib.hid hall
    clear hall
    by_cases hlt : k < n
    · by_cases hin : f + k ∈ S.pg
      · have hl := H.out.1.look hin
        rw [Int.natCast_add] at hl
        have HI := Lib.hid hin
        clear hin
        go_wp2
        go_round
        case rel => exact ⟨k + 1, by go_num, by omega, fun i hi => by
          rcases Nat.lt_or_ge i k with h8 | h8
          · exact HA.out i h8
          · rw [show i = k by omega]; exact HI.out⟩
        case measure => simp [RowKit.intOf]; omega
      · have hl := H.out.1.miss (n := (f : Int) + (k : Int)) (fun j hj e => hin (by rw [show f + k = j by omega]; exact hj)) (by omega) (by omega)
        have hfin := Lib.hid (show er = 5 ∧ Sep F0 w0 w (Ps.set i (slabR s S')) from by
          obtain ⟨hM, back, hS, hok, r⟩ := H.out
          rw [if_neg (fun h => hin (HALL.out.1 h k hlt))] at r
          cases r
          exact ⟨rfl, back w b p S hM hS (Mod.refl _ w) (fun k hk => .inl hk)⟩)
        clear hin
        go_wp2
        go_ret
        exact ⟨by rw [hfin.out.1]; rfl, hfin.out.2⟩
    · obtain rfl : k = n := by omega
      have hst := Lib.hid (show SlabM w s b S.quota (S.pg.filter fun x => decide (x < f) || decide (f + 0 ≤ x)) p S.wd from by
        have e : (S.pg.filter fun x => decide (x < f) || decide (f + 0 ≤ x)) = S.pg := filter_all fun x _ => by
          by_cases hx : x < f
          · simp [hx]
          · simp [hx]; omega
        rw [e]
        exact H.out.1)
      go_wp2_with fail
      go_loopw [45] (fun ix wr => ∃ j : Nat, ix = .int .i64 j ∧ j ≤ k ∧ SlabM wr s b S.quota (S.pg.filter fun x => decide (x < f) || decide (f + j ≤ x)) p S.wd ∧ Mod (SFoot s b S.pg p) w wr) (fun ix _ => k - (RowKit.intOf ix).toNat)
      case atStart => exact ⟨0, rfl, Nat.zero_le _, hst.out, Mod.refl _ w⟩
      case round =>
        obtain ⟨j, rfl, hj, hm, hmod⟩ := hrel
        clear hst
        have c1 := hm.c1
        by_cases hlt2 : j < k
        · have HM := Lib.hid hmod
          clear hmod
          go_wp2_with (at_delete; refine wpList_dropPage hm (by rfl) _ _ (by rfl) (by rfl) (f + j) ((f : Int) + (j : Int)) (by rfl) (by omega) (by omega) ?_)
          intro w2 hm2 hmod2
          have hfin := Lib.hid (show SlabM w2 s b S.quota (S.pg.filter fun x => decide (x < f) || decide (f + (j + 1) ≤ x)) p S.wd ∧ Mod (SFoot s b S.pg p) w w2 from by
            refine ⟨?_, HM.out.trans (hmod2.mono fun x _ hx => .inl (.inr (.inl hx)))⟩
            try rw [List.filter_filter] at hm2
            have e : (S.pg.filter fun x => (x != f + j) && (decide (x < f) || decide (f + j ≤ x))) = (S.pg.filter fun x => decide (x < f) || decide (f + (j + 1) ≤ x)) := by
              apply List.filter_congr
              intro x _
              by_cases hx : x < f
              · have : x ≠ f + j := by omega
                simp [hx, this]
              · by_cases hx2 : x = f + j
                · have : ¬ f + (j + 1) ≤ x := by omega
                  simp [hx, hx2]
                · by_cases hx3 : f + j ≤ x
                  · have : f + (j + 1) ≤ x := by omega
                    simp [hx2, hx3, this]
                  · have : ¬ f + (j + 1) ≤ x := by omega
                    simp [hx, hx3, this]
            rw [← e]
            exact hm2)
          clear hm hm2 hmod2 c1
          go_wp2
          go_roundw
          case rel => exact ⟨j + 1, by go_num, by omega, hfin.out⟩
          case measure => simp [RowKit.intOf]; omega
        · obtain rfl : j = k := by omega
          have hfin := Lib.hid (show er = 0 ∧ Sep F0 w0 wr (Ps.set i (slabR s S')) from by
            obtain ⟨hM, back, hS, hok, r⟩ := H.out
            rw [if_pos (HALL.out.2 HA.out)] at r
            cases r
            refine ⟨rfl, back wr b p _ (hm.words_eq fun x hx y hy => ?_) hok hmod (fun x hx => ?_)⟩
            · have := (Slb.mem_less.1 hx).2
              dsimp only
              rw [if_neg]
              rw [show (64 * x + y) / 64 = x by omega]
              exact this
            · rcases hx with rfl | rfl | ⟨y, hy, rfl⟩
              · exact .inl (.inl rfl)
              · exact .inl (.inr (.inl rfl))
              · exact .inl (.inr (.inr ⟨y, (Slb.mem_less.1 hy).1, rfl⟩)))
          clear hm hmod
          go_wp2
          go_ret
          exact ⟨by rw [hfin.out.1]; rfl, hfin.out.2⟩

theorem Sep.sRelease (h : Sep F0 w0 w Ps) (i : Nat) {s : Nat} {S : Slb} (hi : Ps[i]? = some (slabR s S)) (f n : Int) (hn0 : -9223372036854775808 ≤ n) {er : Int} {S' : Slb} (r : S.release f n = (er, S')) :
    Calls Tryd.prog 41 #[.pointer (some ⟨s, 0, none⟩), .int .i64 f, .int .i64 n] w fun e w' => e = .returned (.int .i64 er) ∧ Sep F0 w0 w' (Ps.set i (slabR s S')) := by
  by_cases hbad : n < 1 ∨ 4096 < n ∨ f < 0 ∨ 1048576 - n < f
  · unfold Slb.release at r
    rw [if_pos hbad] at r
    cases r
    exact sRelease_err h i hi f n hn0 hbad
  · obtain ⟨f, rfl⟩ := Int.eq_ofNat_of_zero_le (show 0 ≤ f by omega)
    obtain ⟨n, rfl⟩ := Int.eq_ofNat_of_zero_le (show 0 ≤ n by omega)
    exact sRelease_main h i hi f n (by omega) (by omega) (by omega) r

theorem Sep.sGrant (h : Sep F0 w0 w Ps) (i : Nat) {s : Nat} {S : Slb} (hi : Ps[i]? = some (slabR s S)) (n : Int) {f er : Int} {S' : Slb} (r : S.grant n = (f, er, S')) :
    Calls Tryd.prog 37 #[.pointer (some ⟨s, 0, none⟩), .int .i64 n] w fun e w' => e = .returned (.tuple #[.int .i64 f, .int .i64 er]) ∧ Sep F0 w0 w' (Ps.set i (slabR s S')) := by
  by_cases hbad : n < 1 ∨ 4096 < n ∨ S.quota < (S.pg.length + n) * 64
  · exact sGrant_err h i hi n r hbad
  · obtain ⟨n, rfl⟩ := Int.eq_ofNat_of_zero_le (show 0 ≤ n by omega)
    unfold Slb.grant at r
    rw [if_neg (by omega), if_neg (by omega), Int.toNat_natCast] at r
    cases r
    exact sGrant_ok h i hi n (by omega) (by omega) (by omega)
end Go.Proofs.YtfmkiioahnphbaaDoor

namespace Go.Proofs.YtfmkiioahnphbaaDoor
open Go Go.RowKit

variable {F0 : Nat → Prop} {w0 w : World} {Ps : List Res}


theorem infoU64 : (Tryd.prog.info? 31).map (fun i => (i.zero, i.size, i.bytes)) = some (some (.int .u64 0), 1, 8) := by kernel_rfl

theorem sMove_err (h : Sep F0 w0 w Ps) (i : Nat) {s : Nat} {S : Slb} (hi : Ps[i]? = some (slabR s S)) (to f n : Int) (t1 : to ≤ 9223372036854775807) (f1 : f ≤ 9223372036854775807) (hbad : Slb.moveBad to f n = true) :
    Calls Tryd.prog 44 #[.pointer (some ⟨s, 0, none⟩), .int .i64 to, .int .i64 f, .int .i64 n] w fun e w' => e = .returned (.int .i64 2) ∧ Sep F0 w0 w' (Ps.set i (slabR s S)) := by
  obtain ⟨b, p, hM, hS, back⟩ := h.sGet i hi
  have hfin := Lib.hid (back w b p S hM hS (Mod.refl _ w) (fun k hk => .inl hk))
  have hN := hM.there
  simp only [Slb.moveBad, decide_eq_true_eq] at hbad
  clear h hi hM hS back
  by_cases g1 : n < 0
  · have d1 : decide (n < 0) = true := ltT g1
    clear hbad g1
    go_enter Tryd.func44, Tryd.ntmps44
    go_wp2_with ((with_reducible refine hN.mono ?_); rintro e w' ⟨rfl, rfl⟩)
    go_ret
    exact ⟨rfl, hfin.out⟩
  have n0 : 0 ≤ n := by omega
  have d1 : decide (n < 0) = false := ltF n0
  by_cases g2 : 262144 < n
  · have d2 : decide (262144 < n) = true := ltT g2
    clear hbad g1 g2
    go_enter Tryd.func44, Tryd.ntmps44
    go_wp2_with ((with_reducible refine hN.mono ?_); rintro e w' ⟨rfl, rfl⟩)
    go_ret
    exact ⟨rfl, hfin.out⟩
  have n1 : n ≤ 262144 := by omega
  have d2 : decide (262144 < n) = false := ltF n1
  by_cases g3 : to < 0
  · have d3 : decide (to < 0) = true := ltT g3
    clear hbad g1 g2 g3
    go_enter Tryd.func44, Tryd.ntmps44
    go_wp2_with ((with_reducible refine hN.mono ?_); rintro e w' ⟨rfl, rfl⟩)
    go_ret
    exact ⟨rfl, hfin.out⟩
  have t0 : 0 ≤ to := by omega
  have d3 : decide (to < 0) = false := ltF t0
  by_cases g4 : f < 0
  · have d4 : decide (f < 0) = true := ltT g4
    clear hbad g1 g2 g3 g4
    go_enter Tryd.func44, Tryd.ntmps44
    go_wp2_with ((with_reducible refine hN.mono ?_); rintro e w' ⟨rfl, rfl⟩)
    go_ret
    exact ⟨rfl, hfin.out⟩
  have f0 : 0 ≤ f := by omega
  have d4 : decide (f < 0) = false := ltF f0
  have d5 : decide (67108863 - max (n - 1) 0 < max to f) = true := ltT (by omega)
  clear hbad g1 g2 g3 g4
  go_enter Tryd.func44, Tryd.ntmps44
  go_wp2_with ((with_reducible refine hN.mono ?_); rintro e w' ⟨rfl, rfl⟩)
  go_ret
  exact ⟨rfl, hfin.out⟩

namespace Slb
/-- The arena when j words have been moved. -/
def mv (S : Slb) (to f j : Nat) : Slb := { S with wd := fun a => if to ≤ a ∧ a < to + j then S.wd (f + (a - to)) else S.wd a }
theorem mv_zero (S : Slb) (to f : Nat) : S.mv to f 0 = S := by
  unfold mv
  congr 1
  funext a
  rw [if_neg (by omega)]
theorem mv_err (S : Slb) (to f j : Nat) (a : Int) : (S.mv to f j).err a = S.err a := rfl
theorem mv_step (S : Slb) (to f j : Nat) (he : S.err ((to : Int) + (j : Int)) = 0) : (S.mv to f j).write ((to : Int) + (j : Int)) (S.wd (f + j)) = (0, S.mv to f (j + 1)) := by
  unfold write
  rw [mv_err, if_pos he]
  congr 1
  unfold mv
  congr 1
  funext a
  rw [show ((to : Int) + (j : Int)).toNat = to + j by omega]
  by_cases h1 : a = to + j
  · subst h1
    rw [if_pos rfl, if_pos (by omega), show f + (to + j - to) = f + j by omega]
  · rw [if_neg h1]
    dsimp only
    by_cases h2 : to ≤ a ∧ a < to + j
    · rw [if_pos h2, if_pos (by omega)]
    · rw [if_neg h2, if_neg (by omega)]
end Slb

set_option maxRecDepth 100000 in
set_option maxHeartbeats 1000000 in
theorem smove_main {F : Nat → Prop} {s : Nat} {S : Slb} (h : Sep F w w [slabR s S]) (to f n : Nat) (h1 : n ≤ 262144) (h2 : to + n ≤ 67108864 ∧ f + n ≤ 67108864 ∧ to ≤ 67108863 ∧ f ≤ 67108863) {er : Int} {S' : Slb} (r : S.move to f n = (er, S')) :
    Calls Tryd.prog 44 #[.pointer (some ⟨s, 0, none⟩), .int .i64 to, .int .i64 f, .int .i64 n] w fun e w' => e = .returned (.int .i64 er) ∧ Sep F w w' [slabR s S'] := by
  have hS := h.sOk 0 rfl
  have hN := h.sThere 0 rfl
  have hnb : Slb.moveBad to f n = false := by simp only [Slb.moveBad, decide_eq_false_iff_not]; omega
  unfold Slb.move at r
  rw [hnb] at r
  have d1 : decide ((n : Int) < 0) = false := ltF (by omega)
  have d2 : decide ((262144 : Int) < (n : Int)) = false := ltF (by omega)
  have d3 : decide ((to : Int) < 0) = false := ltF (by omega)
  have d4 : decide ((f : Int) < 0) = false := ltF (by omega)
  have d5 : decide (67108863 - max ((n : Int) - 1) 0 < max (to : Int) (f : Int)) = false := ltF (by omega)
  have HALL := Lib.hid (show (List.range n).all (fun k => S.has (((f : Int) + (k : Int)) / 64) && S.has (((to : Int) + (k : Int)) / 64)) = true ↔ ∀ k, k < n → S.err ((f : Int) + (k : Int)) = 0 ∧ S.err ((to : Int) + (k : Int)) = 0 from by
    rw [List.all_eq_true]
    constructor
    · intro h k hk
      have := h k (List.mem_range.2 hk)
      rw [Bool.and_eq_true] at this
      exact ⟨(Slb.err_iff (by omega) (by omega)).2 this.1, (Slb.err_iff (by omega) (by omega)).2 this.2⟩
    · intro h k hk
      have hk' := List.mem_range.1 hk
      have := h k hk'
      rw [Bool.and_eq_true]
      exact ⟨(Slb.err_iff (by omega) (by omega)).1 this.1, (Slb.err_iff (by omega) (by omega)).1 this.2⟩)
  simp only [Bool.false_eq_true, if_false, Int.toNat_natCast] at r
  have HR := Lib.hid r
  have hXW := Lib.hid hS.words
  have hbad5 := Lib.hid (fun (a : Int) (h0 : 0 ≤ a) (h1 : a ≤ 67108863) (hne : S.err a ≠ 0) => (show S.err a = 5 from by
    rcases Slb.err_range S a with h | h | h
    · exact absurd h hne
    · unfold Slb.err at h
      rw [if_neg (by omega)] at h
      split at h <;> omega
    · exact h))
  obtain ⟨i0, hi0, hz0, hz1, hz2⟩ := info_parts infoU64
  have HI := Lib.hid (And.intro hi0 (And.intro hz0 (And.intro hz1 hz2)))
  have hst := Lib.hid (show Sep F w w [slabR s S, intsAt 31 .u64 (.slice none 0 0) ((List.range 0).map fun i => S.wd (f + i))] from h.pushNil _ _)
  clear h hS r hnb hi0 hz0 hz1 hz2
  go_enter Tryd.func44, Tryd.ntmps44
  go_wp2_with ((with_reducible refine hN.mono ?_); rintro e w' ⟨rfl, rfl⟩)
  go_loopw [9, 46] (fun l ix wr => ∃ k : Nat, ix = .int .i64 k ∧ k ≤ n ∧ Sep F w wr [slabR s S, intsAt 31 .u64 l ((List.range k).map fun i => S.wd (f + i))] ∧ ∀ i, i < k → S.err ((f : Int) + (i : Int)) = 0 ∧ S.err ((to : Int) + (i : Int)) = 0) (fun _ ix _ => n - (RowKit.intOf ix).toNat)
  case atStart => exact ⟨0, rfl, Nat.zero_le _, hst.out, by intro i hi; omega⟩
  case round =>
    obtain ⟨k, rfl, hk, h, hall⟩ := hrel
    clear hst
    have HA := Lib.hid hall
    clear hall
    by_cases hlt : k < n
    · by_cases he : S.err ((f : Int) + (k : Int)) = 0
      · have hr1 : S.read ((f : Int) + (k : Int)) = (S.wd (f + k), 0) := by
          unfold Slb.read
          rw [if_pos he, show ((f : Int) + (k : Int)).toNat = f + k by omega]
        have hc1 := h.sRead 0 rfl _ hr1
        by_cases he2 : S.err ((to : Int) + (k : Int)) = 0
        · have hr2 : S.read ((to : Int) + (k : Int)) = (S.wd (to + k), 0) := by
            unfold Slb.read
            rw [if_pos he2, show ((to : Int) + (k : Int)).toNat = to + k by omega]
          have hc2 := h.sRead 0 rfl _ hr2
          have HE := Lib.hid (And.intro he he2)
          obtain ⟨sl, cl, rfl⟩ := h.form 1 rfl
          have hh := h
          rw [intsAt, List.length_map, List.length_range] at hh
          rw [List.length_map, List.length_range]
          generalize S.wd (to + k) = y at *
          have hx : ((List.range k).map fun i => S.wd (f + i)) ++ [S.wd (f + k)] = (List.range (k + 1)).map fun i => S.wd (f + i) := by rw [List.range_succ, List.map_append]; rfl
          have HX := Lib.hid hx
          generalize S.wd (f + k) = x at *
          obtain ⟨hi0, hz0, hz1, hz2⟩ := HI.out
          clear he he2 hr1 hr2 hx h
          go_wp2_with fail
          refine hc1.mono ?_
          rintro e w1 ⟨rfl, rfl⟩
          clear hc1
          go_wp2_with fail
          refine hc2.mono ?_
          rintro e w1 ⟨rfl, rfl⟩
          clear hc2
          go_wp2_with (at_builtin; refine wpList_append_sep1 hh 1 rfl (by rfl) _ _ 113 rfl Tryd.underlying113 hi0 hz0 hz1 hz2 rfl (by rfl) _ _ (by rfl) (by simp) (by rfl) _ (by unfold maxLen; omega) (by omega) ?_)
          intro gg cg w2 h2
          have hfin := Lib.hid (show Sep F w w2 [slabR s S, intsAt 31 .u64 (.slice (some ⟨gg, 0, none⟩) (k + 1) cg) ((List.range (k + 1)).map fun i => S.wd (f + i))] from by
            rw [← HX.out, intsAt, List.map_append, List.length_append, List.length_map, List.length_range, List.map_map]
            exact h2)
          clear hh h2 hi0 hz0 hz1 hz2
          go_wp2
          go_roundw
          case rel => exact ⟨k + 1, by go_num, by omega, hfin.out, fun i hi => by
            rcases Nat.lt_or_ge i k with h8 | h8
            · exact HA.out i h8
            · rw [show i = k by omega]; exact HE.out⟩
          case measure => simp [RowKit.intOf]; omega
        · have hr2 : S.read ((to : Int) + (k : Int)) = (0, 5) := by
            unfold Slb.read
            rw [if_neg he2, hbad5.out _ (by omega) (by omega) he2]
          have hc2 := h.sRead 0 rfl _ hr2
          have hfin := Lib.hid (show er = 5 ∧ Sep F w wr [slabR s S'] from by
            have r := HR.out
            rw [if_neg (fun hh => he2 ((HALL.out.1 hh k hlt).2))] at r
            cases r
            exact ⟨rfl, Sep.left (Ps := [_]) h⟩)
          generalize S.wd (f + k) = x at *
          clear he he2 hr1 hr2 h
          go_wp2_with fail
          refine hc1.mono ?_
          rintro e w1 ⟨rfl, rfl⟩
          clear hc1
          go_wp2_with fail
          refine hc2.mono ?_
          rintro e w1 ⟨rfl, rfl⟩
          clear hc2
          go_wp2
          go_ret
          exact ⟨by rw [hfin.out.1]; rfl, hfin.out.2⟩
      · have hr1 : S.read ((f : Int) + (k : Int)) = (0, 5) := by
          unfold Slb.read
          rw [if_neg he, hbad5.out _ (by omega) (by omega) he]
        have hc1 := h.sRead 0 rfl _ hr1
        have hfin := Lib.hid (show er = 5 ∧ Sep F w wr [slabR s S'] from by
          have r := HR.out
          rw [if_neg (fun hh => he ((HALL.out.1 hh k hlt).1))] at r
          cases r
          exact ⟨rfl, Sep.left (Ps := [_]) h⟩)
        clear he hr1 h
        go_wp2_with fail
        refine hc1.mono ?_
        rintro e w1 ⟨rfl, rfl⟩
        clear hc1
        go_wp2
        go_ret
        exact ⟨by rw [hfin.out.1]; rfl, hfin.out.2⟩
    · obtain rfl : k = n := by omega
      obtain ⟨sl, cl, rfl⟩ := h.form 1 rfl
      have hh := h
      rw [intsAt, List.length_map, List.length_range] at hh
      rw [List.length_map, List.length_range]
      have hst := Lib.hid (show Sep F w wr [slabR s (S.mv to f 0), rowAt 31 1 (.slice sl k cl) k (((List.range k).map fun i => S.wd (f + i)).map (Value.int .u64))] from by rw [Slb.mv_zero]; exact hh)
      clear h hh
      go_wp2_with fail
      go_loopw [78] (fun ix wr => ∃ j : Nat, ix = .int .i64 j ∧ j ≤ k ∧ Sep F w wr [slabR s (S.mv to f j), rowAt 31 1 (.slice sl k cl) k (((List.range k).map fun i => S.wd (f + i)).map (Value.int .u64))]) (fun ix _ => k - (RowKit.intOf ix).toNat)
      case atStart => exact ⟨0, rfl, Nat.zero_le _, hst.out⟩
      case round =>
        obtain ⟨j, rfl, hj, h⟩ := hrel
        clear hst
        by_cases hlt2 : j < k
        · obtain ⟨g, rfl, c1, _⟩ := h.item 1 rfl (o := j) (x := .int .u64 (S.wd (f + j))) (by simp [hlt2])
          have hj' : (j : Int) < (k : Int) := by omega
          have hx0 := hXW.out (f + j)
          have hc := h.sWrite 0 rfl ((to : Int) + (j : Int)) (S.wd (f + j)) hx0.1 hx0.2 (Slb.mv_step S to f j (HA.out j hlt2).2)
          generalize S.wd (f + j) = x at *
          clear h hx0
          go_wp2_with fail
          refine hc.mono ?_
          rintro e w1 ⟨rfl, h1⟩
          have hfin := Lib.hid h1
          clear h1 hc c1
          go_wp2
          go_roundw
          case rel => exact ⟨j + 1, by go_num, by omega, hfin.out⟩
          case measure => simp [RowKit.intOf]; omega
        · obtain rfl : j = k := by omega
          have hfin := Lib.hid (show er = 0 ∧ Sep F w wr [slabR s S'] from by
            have r := HR.out
            rw [if_pos (HALL.out.2 HA.out)] at r
            cases r
            exact ⟨rfl, Sep.left (Ps := [_]) h⟩)
          clear h
          go_wp2
          go_ret
          exact ⟨by rw [hfin.out.1]; rfl, hfin.out.2⟩

theorem Sep.sMove (h : Sep F0 w0 w Ps) (i : Nat) {s : Nat} {S : Slb} (hi : Ps[i]? = some (slabR s S)) (to f n : Int) (t1 : to ≤ 9223372036854775807) (f1 : f ≤ 9223372036854775807) {er : Int} {S' : Slb} (r : S.move to f n = (er, S')) :
    Calls Tryd.prog 44 #[.pointer (some ⟨s, 0, none⟩), .int .i64 to, .int .i64 f, .int .i64 n] w fun e w' => e = .returned (.int .i64 er) ∧ Sep F0 w0 w' (Ps.set i (slabR s S')) := by
  cases hbad : Slb.moveBad to f n with
  | true =>
    unfold Slb.move at r
    rw [hbad] at r
    cases r
    exact sMove_err h i hi to f n t1 f1 hbad
  | false =>
    simp only [Slb.moveBad, decide_eq_false_iff_not] at hbad
    obtain ⟨to, rfl⟩ := Int.eq_ofNat_of_zero_le (show 0 ≤ to by omega)
    obtain ⟨f, rfl⟩ := Int.eq_ofNat_of_zero_le (show 0 ≤ f by omega)
    obtain ⟨n, rfl⟩ := Int.eq_ofNat_of_zero_le (show 0 ≤ n by omega)
    exact h.lift i hi fun F hF => smove_main hF to f n (by omega) (by omega) r
end Go.Proofs.YtfmkiioahnphbaaDoor
