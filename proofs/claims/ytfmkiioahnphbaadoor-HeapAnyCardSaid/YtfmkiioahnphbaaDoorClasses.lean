/- Package class, walked: sizes, Size, Classes, Slots, Of, Pages, Place. No condition but that numbers are 64-bit. | Package class, walked: Size, Slots. No condition but that numbers are 64-bit. | Package class, walked: Slots, Classes, Of, Pages, Place. No condition but that numbers are 64-bit. | Package class, walked: Pages, Place. No condition but that numbers are 64-bit. -/
import Derived.Test.YtfmkiioahnphbaaDoorProg
import Derived.Test.YtfmkiioahnphbaaDoorGround
import Derived.RangeFuncNested
import Derived.RangeFuncBound
import Derived.RangeFuncCalls
import Derived.RangeFuncLeaves
import Derived.Shelf.Abstract
import Derived.Shelf.RegionOpen
import Derived.WalkKit
import Derived.OwnWalkIn
import Derived.TacticsInMore
import Derived.LoopNIn
import Derived.LoopIn
set_option linter.unusedVariables false
set_option linter.unusedSimpArgs false
set_option maxRecDepth 100000
namespace Go.Proofs.YtfmkiioahnphbaaDoor
open Go Go.RowKit Go.Shelf

attribute [local go_sem] Oper.semAt_some

/-- The classes' sizes. -/
def csz : Nat → Nat
  | 0 => 2 | 1 => 3 | 2 => 4 | 3 => 6 | 4 => 9 | 5 => 13 | 6 => 19 | 7 => 28 | _ => 42
def ccs (k : Nat) : List (Fin 8) := (List.finRange 8).take k
theorem ccs_len (k : Nat) (h : k ≤ 8) : (ccs k).length = k := by simp [ccs]; omega
theorem ccs_all (p : Fin 8) : p ∈ ccs 8 := by revert p; decide
abbrev cenc (p : Fin 8) : Array Value := #[.int .i64 ((p.val : Nat) : Int), .int .i64 ((csz p.val : Nat) : Int)]
theorem eight {k : Nat} (h : k < 8) : k = 0 ∨ k = 1 ∨ k = 2 ∨ k = 3 ∨ k = 4 ∨ k = 5 ∨ k = 6 ∨ k = 7 := by omega

theorem sizes_call (w : World) : Calls Tryd.prog 51 #[] w fun e w' => e = .returned (.func (.func 71) #[] #[]) ∧ w = w' := by
  go_enter Tryd.func51, Tryd.ntmps51
  go_wp2
  go_ret
  exact ⟨rfl, rfl⟩

set_option maxRecDepth 100000 in
set_option maxHeartbeats 1000000 in
theorem sizes_stops (Kp : World → World → Prop) (n : Nat) (hn : 1 ≤ n) (w : World) :
    SeqStopsK Fence.wide n Tryd.prog 71 #[] cenc Kp (fun xs => xs = ccs 8) (fun pre => ∃ k, k ≤ 8 ∧ pre = ccs k) 8 w := fun l J Jx W _ _ _ hY h0 => by
  refine callsIn_of_wp Tryd.func71 rfl trivial ?_ rfl
  simp only [Tryd.ntmps71, List.size_toArray, List.length_cons, List.length_nil, Nat.reduceAdd, Nat.reduceSub, Array.replicate_succ, Array.replicate_zero, List.push_toArray, List.append_toArray, List.nil_append, List.cons_append]
  gi_wp2
  gi_loopw [2, 3] (fun c s wr => ∃ k : Nat, k ≤ 8 ∧ c = .int .i64 k ∧ s = .int .i64 (csz k : Nat) ∧ J (ccs k) wr) (fun c _ _ => 8 - (RowKit.intOf c).toNat)
  case atStart => exact ⟨0, by omega, rfl, rfl, h0⟩
  case round =>
    obtain ⟨k, hk, rfl, rfl, hJ⟩ := hrel
    by_cases hlt : k < 8
    · obtain ⟨fn, tmps, assign, body, hy, hR⟩ := hY _ ⟨k, hlt⟩ wr hJ (by rw [ccs_len _ hk]; exact hlt)
      dsimp only [cenc] at hy
      have HX : ccs (k + 1) = ccs k ++ [⟨k, hlt⟩] := by rcases eight hlt with rfl | rfl | rfl | rfl | rfl | rfl | rfl | rfl <;> rfl
      rcases eight hlt with rfl | rfl | rfl | rfl | rfl | rfl | rfl | rfl
      all_goals (
        simp only [csz] at hy
        push_cast at hy
        simp only [csz]
        gi_wp2
        refine hR.mono ?_
        rintro e W3 (⟨rfl, hJ3, hk3⟩ | ⟨rfl, hJx3⟩)
        · gi_wp2
          go_roundw
          case rel => exact ⟨_, (by decide), rfl, rfl, by rw [HX]; exact hJ3⟩
          case measure => simp [RowKit.intOf]
        · gi_wp2
          refine bodyPost_ret (results_none rfl _ _ _) rfl ?_
          exact ⟨⟨_, rfl⟩, .inr ⟨_, ⟨_, (by decide), HX.symm⟩, hJx3⟩⟩)
    · obtain rfl : k = 8 := by omega
      gi_wp2
      go_end0
      exact ⟨⟨_, rfl⟩, .inl ⟨_, rfl, hJ⟩⟩
end Go.Proofs.YtfmkiioahnphbaaDoor

namespace Go.Proofs.YtfmkiioahnphbaaDoor
open Go Go.RowKit Go.Shelf

attribute [local go_sem] Oper.semAt_some

/-- Cells that a function has of its own. -/
def Cel (l : List (Nat × Value)) (W : World) : Prop := ∀ p ∈ l, W.cell? ⟨p.1, 0, none⟩ = some p.2 ∧ W.frozen? ⟨p.1, 0, none⟩ = false
theorem cel_own {β : Type} (l : List (Nat × Value)) : Own (fun (_ : β) W => Cel l W) := fun _ _ _ _ hs hg hr p hp => ⟨cell_kept (hs p hp).1 hg hr, (frozen_kept (hs p hp).1 hg hr).trans (hs p hp).2⟩
theorem Cel.nil (W : World) : Cel [] W := fun _ h => by cases h
theorem Cel.alloc {l : List (Nat × Value)} {W : World} (h : Cel l W) (o : Obj) : Cel l (W.alloc o) := fun p hp => ⟨cell_kept (h p hp).1 (World.grownBy_alloc W o none) (fun r e => by cases e), (frozen_kept (h p hp).1 (World.grownBy_alloc W o none) (fun r e => by cases e)).trans (h p hp).2⟩
theorem Cel.new {l : List (Nat × Value)} {W : World} (h : Cel l W) (v : Value) (T : TypeId) {n : Nat} (hn : W.heap.size = n) : Cel (l ++ [(n, v)]) (W.alloc (.cells #[v] T)) := by
  subst hn
  intro p hp
  rcases List.mem_append.1 hp with hp | hp
  · exact h.alloc _ p hp
  · rw [List.mem_singleton.1 hp]
    exact ⟨by rw [cell_at (heap_alloc_new W _)]; rfl, by go_simp⟩
theorem Cel.get {l : List (Nat × Value)} {W : World} (h : Cel l W) (i : Nat) {b : Nat} {v : Value} (hi : l[i]? = some (b, v)) : W.cell? ⟨b, 0, none⟩ = some v ∧ W.frozen? ⟨b, 0, none⟩ = false := h _ (List.mem_of_getElem? hi)
theorem Cel.set {l : List (Nat × Value)} {W : World} (h : Cel l W) (i : Nat) {b : Nat} {v : Value} (hi : l[i]? = some (b, v)) (hn : ∀ j c u, l[j]? = some (c, u) → j ≠ i → c ≠ b) (u : Value) : Cel (l.set i (b, u)) (W.setCell ⟨b, 0, none⟩ u) := by
  intro p hp
  obtain ⟨j, hj, hp⟩ := List.getElem_of_mem hp
  have hj2 : (l.set i (b, u))[j]? = some p := by rw [← hp]; exact List.getElem?_eq_getElem hj
  rw [World.frozen?_setCell]
  by_cases hji : i = j
  · subst hji
    rw [List.getElem?_set_self (List.getElem?_eq_some_iff.1 hi).1] at hj2
    cases hj2
    exact ⟨World.cell?_setCell_same' _ _ _ (by rw [(h.get i hi).1]; rfl), (h.get i hi).2⟩
  · rw [List.getElem?_set_ne hji] at hj2
    obtain ⟨c, x⟩ := p
    have hne := hn j c x hj2 (fun e => hji e.symm)
    rw [World.cell?_setCell_other _ _ _ _ (fun e => hne (by injection e with e1; exact e1.symm))]
    exact h.get j hj2
theorem Cel.put {l : List (Nat × Value)} {W : World} (h : Cel l W) {D : Nat} {x : Obj} (hK : W.heap[D]? = some x) (hx : x.isCells = false) (o : Obj) : Cel l (W.putObj D o) :=
  fun p hp => ⟨cell_kept (h p hp).1 (grownBy_putObj' _ D o) (fun r e => by cases e; exact ⟨_, hK, hx⟩), (frozen_kept (h p hp).1 (grownBy_putObj' _ D o) (fun r e => by cases e; exact ⟨_, hK, hx⟩)).trans (h p hp).2⟩
theorem Cel.set2 {a b c : Nat} {x y z : Value} {W : World} (h : Cel [(a, x), (b, y), (c, z)] W) (hab : a ≠ b) (hac : a ≠ c) (hbc : b ≠ c) (u v : Value) : Cel [(a, x), (b, u), (c, v)] ((W.setCell ⟨b, 0, none⟩ u).setCell ⟨c, 0, none⟩ v) :=
  (h.set 1 rfl (fun j d u hj hji => by
    rcases (show j = 0 ∨ j = 2 ∨ 3 ≤ j by omega) with rfl | rfl | h
    · simp at hj; omega
    · simp at hj; omega
    · rw [List.getElem?_eq_none (by simpa using h)] at hj; cases hj) u).set 2 rfl (fun j d u hj hji => by
    rcases (show j = 0 ∨ j = 1 ∨ 3 ≤ j by omega) with rfl | rfl | h
    · simp at hj; omega
    · simp at hj; omega
    · rw [List.getElem?_eq_none (by simpa using h)] at hj; cases hj) v
theorem Cel.ne {l : List (Nat × Value)} {i : Nat} {b : Nat} (h : (l.map (·.1)).Pairwise (· ≠ ·)) (hi : (l.map (·.1))[i]? = some b) : ∀ j c u, l[j]? = some (c, u) → j ≠ i → c ≠ b := by
  intro j c u hj hji e
  subst e
  have hj2 : (l.map (·.1))[j]? = some c := by rw [List.getElem?_map, hj]; rfl
  obtain ⟨l1, e1⟩ := List.getElem?_eq_some_iff.1 hi
  obtain ⟨l2, e2⟩ := List.getElem?_eq_some_iff.1 hj2
  rcases Nat.lt_or_gt_of_ne hji with h3 | h3
  · exact List.pairwise_iff_getElem.1 h j i l2 l1 h3 (e2.trans e1.symm)
  · exact List.pairwise_iff_getElem.1 h i j l1 l2 h3 (e1.trans e2.symm)
theorem Cel.set3 {a b c d : Nat} {x y z v : Value} {W : World} (h : Cel [(a, x), (b, y), (c, z), (d, v)] W) (hab : a ≠ b) (hac : a ≠ c) (had : a ≠ d) (hbc : b ≠ c) (hbd : b ≠ d) (hcd : c ≠ d) (u1 u2 u3 : Value) :
    Cel [(a, x), (b, u1), (c, u2), (d, u3)] (((W.setCell ⟨b, 0, none⟩ u1).setCell ⟨c, 0, none⟩ u2).setCell ⟨d, 0, none⟩ u3) :=
  ((h.set 1 rfl (Cel.ne (by simp [*]) rfl) u1).set 2 rfl (Cel.ne (by simp [*]) rfl) u2).set 3 rfl (Cel.ne (by simp [*]) rfl) u3
theorem pure_own {β : Type} (p : β → Prop) : Own (fun (s : β) (_ : World) => p s) := fun _ _ _ _ hs _ _ => hs
theorem Own.and' {β : Type} {I I' : β → World → Prop} (h : Own I) (h' : Own I') : Own (fun s W => I s W ∧ I' s W) := fun s W W' row hs hg hr => ⟨h s W W' row hs.1 hg hr, h' s W W' row hs.2 hg hr⟩

def csize (c : Int) : Int × Int := if 0 ≤ c ∧ c < 8 then ((csz c.toNat : Nat), 0) else (0, 2)

set_option maxRecDepth 100000 in
set_option maxHeartbeats 1000000 in
theorem size_in (c : Int) (w : World) : Calls Tryd.prog 28 #[.int .i64 c] w fun e w' => e = .returned (.tuple #[.int .i64 (csize c).1, .int .i64 (csize c).2]) ∧ Below w.heap.size w w' := by
  refine (callsIn_wide (n := 3)).1 ?_
  refine callsIn_of_wp_marks Tryd.func28 rfl trivial ?_ rfl
  simp only [Tryd.ntmps28, List.size_toArray, List.length_cons, List.length_nil, Nat.reduceAdd, Nat.reduceSub, Array.replicate_succ, Array.replicate_zero, List.push_toArray, List.append_toArray, List.nil_append, List.cons_append]
  gi_wp2_with (refine ⟨trivial, ?_⟩; gi_at_call 51; refine (callsIn_wide.2 (sizes_call _)).mono ?_; rintro e w' ⟨rfl, rfl⟩)
  obtain ⟨W0, hW0⟩ : ∃ x, ((w.alloc (.cells #[.int .i64 c] 3)).alloc (.cells #[.int .i64 0] 3)).alloc (.cells #[.int .i64 0] 27) = x := ⟨_, rfl⟩
  have hsz : W0.heap.size = w.heap.size + 3 := by rw [← hW0]; simp
  have hb0 : Below w.heap.size w W0 := by rw [← hW0]; exact (((Below.refl _ w).alloc (Nat.le_refl _) _).alloc (by simp) _).alloc (by simp; omega) _
  have hc0 : Cel [(w.heap.size, .int .i64 c), (w.heap.size + 1, .int .i64 0), (w.heap.size + 1 + 1, .int .i64 0)] W0 := by
    rw [← hW0]
    exact (((Cel.nil w).new _ _ rfl).new _ _ (by simp)).new _ _ (by simp)
  rw [hW0]
  clear hW0
  refine wpIn_rangeFunc_ownF rfl (by omega) (gf := 71) (lb := #[]) rfl trivial (enters_of Tryd.func71 (by kernel_rfl) rfl) (sizes_stops (Below w.heap.size) 2 (by omega) W0) belowK_t (belowK_b (by omega)) (Below.refl _ _) (fun _ => rfl)
    (fun pre W => ((∀ p ∈ pre, ((p.val : Nat) : Int) ≠ c) ∧ Cel [(w.heap.size, .int .i64 c), (w.heap.size + 1, .int .i64 0), (w.heap.size + 1 + 1, .int .i64 0)] W) ∧ Below w.heap.size w W)
    (fun q _ W => ((q = .ret ∧ ∃ p : Fin 8, ((p.val : Nat) : Int) = c) ∧ Cel [(w.heap.size, .int .i64 c), (w.heap.size + 1, .int .i64 (csize c).1), (w.heap.size + 1 + 1, .int .i64 0)] W) ∧ Below w.heap.size w W)
    (OwnFrom.and (Own.from (Own.and' (pure_own _) (cel_own _)) _) (ownFrom_below (Nat.le_refl _) (by omega)))
    (fun q => OwnFrom.and (Own.from (Own.and' (pure_own _) (cel_own _)) _) (ownFrom_below (Nat.le_refl _) (by omega)))
    ⟨⟨by simp, hc0⟩, hb0⟩
    (fun x => { tmps := #[.int .i64 c, .pointer (some ⟨w.heap.size, 0, none⟩), .pointer (some ⟨w.heap.size + 1, 0, none⟩), .pointer (some ⟨w.heap.size + 1 + 1, 0, none⟩), .int .i64 ((x.val : Nat) : Int), .int .i64 ((csz x.val : Nat) : Int), .func (.func 71) #[] #[], .int .i64 ((x.val : Nat) : Int), .int .i64 ((csz x.val : Nat) : Int), undef, undef, undef, undef], defers := [] }) ?assign ?body ?done ?stop
  case assign =>
    intro l x W K hK
    gi_wp2
    exact hK
  case body =>
    rintro l pre x W ⟨⟨hne, hC⟩, hB⟩ hlt
    have h1 := (hC.get 0 rfl).1
    have h2 := hC.get 1 rfl
    have h3 := hC.get 2 rfl
    have h21 := h2.1
    have h22 := h2.2
    have h31 := h3.1
    have h32 := h3.2
    by_cases hx : ((x.val : Nat) : Int) = c
    · have hxb : (((x.val : Nat) : Int) == c) = true := beqT hx
      have hs1 : (csize c).1 = ((csz x.val : Nat) : Int) := by
        have := x.isLt
        unfold csize
        rw [if_pos (by omega), show c.toNat = x.val by omega]
      have hset := hC.set2 (by omega) (by omega) (by omega) (.int .i64 (csz x.val : Nat)) (.int .i64 0)
      have HS := Lib.hid (show Cel [(w.heap.size, .int .i64 c), (w.heap.size + 1, .int .i64 (csize c).1), (w.heap.size + 1 + 1, .int .i64 0)] ((W.setCell ⟨w.heap.size + 1, 0, none⟩ (.int .i64 (csz x.val : Nat))).setCell ⟨w.heap.size + 1 + 1, 0, none⟩ (.int .i64 0)) from by rw [hs1]; exact hset)
      have HX := Lib.hid hx
      clear hset hC hne hlt hs1 hx h2 h3
      gi_wp2
      exact ⟨(KeepsOthers.setCell _ _ _).trans (KeepsOthers.setCell _ _ _), ⟨⟨rfl, x, HX.out⟩, HS.out⟩, (hB.setCell (p := ⟨w.heap.size + 1, 0, none⟩) (by simp) _).setCell (p := ⟨w.heap.size + 1 + 1, 0, none⟩) (by simp; omega) _⟩
    · have hxb : (((x.val : Nat) : Int) == c) = false := beqF hx
      have HX := Lib.hid (show ∀ p ∈ pre ++ [x], ((p.val : Nat) : Int) ≠ c from fun p hp => by
        rcases List.mem_append.1 hp with hp | hp
        · exact hne p hp
        · rw [List.mem_singleton.1 hp]; exact hx)
      clear hne hx h2 h3 hlt
      gi_wp2
      exact ⟨KeepsOthers.refl _, Below.refl _ _, ⟨HX.out, hC⟩, hB⟩
  case done =>
    rintro D xs W hD rfl ⟨⟨hne, hC⟩, hB⟩ hK
    have hcs : csize c = (0, 2) := by
      unfold csize
      rw [if_neg]
      rintro ⟨h0, h1⟩
      have := hne ⟨c.toNat, by omega⟩ (ccs_all _)
      simp at this
      omega
    have h2 := hC.get 1 rfl
    have h3 := hC.get 2 rfl
    have h21 := h2.1
    have h22 := h2.2
    have h31 := h3.1
    have h32 := h3.2
    have hset := hC.set2 (by omega) (by omega) (by omega) (.int .i64 0) (.int .i64 2)
    have hK' := ((KeepsOthers.setCell W ⟨w.heap.size + 1, 0, none⟩ (.int .i64 0)).trans (KeepsOthers.setCell _ ⟨w.heap.size + 1 + 1, 0, none⟩ (.int .i64 2))).same D _ hK rfl
    have hB' := (hB.setCell (p := ⟨w.heap.size + 1, 0, none⟩) (by simp) (.int .i64 0)).setCell (p := ⟨w.heap.size + 1 + 1, 0, none⟩) (by simp; omega) (.int .i64 2)
    have hC' := hset.put hK' rfl (.deferred none)
    have hB2 := hB'.trans (belowK_b (w := w) (Nat.le_refl _) _ D _ (.deferred none) (by omega) hK' rfl rfl)
    have q1 := (hC'.get 1 rfl).1
    have q2 := (hC'.get 2 rfl).1
    have HH := Lib.hid (And.intro hK' hB2)
    clear h2 h3 hset hC' hB' hC hK' hB2
    gi_wp2
    refine ⟨by simp, .inl ⟨_, _, rfl, run_takeDeferred HH.out.1, ?_⟩⟩
    refine ⟨.tuple #[.int .i64 0, .int .i64 2], ?_, by rw [hcs], HH.out.2⟩
    simp [results, Tryd.f28, go_sem, q1, q2]
  case stop =>
    rintro D q pre W hD _ ⟨⟨⟨rfl, p, hp⟩, hC⟩, hB⟩ hK
    have hC' := hC.put hK rfl (.deferred none)
    have hB2 := hB.trans (belowK_b (w := w) (Nat.le_refl _) W D _ (.deferred none) (by omega) hK rfl rfl)
    have q1 := (hC'.get 1 rfl).1
    have q2 := (hC'.get 2 rfl).1
    have hc2 : (csize c).2 = 0 := by have := p.isLt; unfold csize; rw [if_pos (by omega)]
    gi_wp2
    refine ⟨by simp, .inl ⟨_, _, rfl, run_takeDeferred hK, ?_⟩⟩
    refine ⟨.tuple #[.int .i64 (csize c).1, .int .i64 0], ?_, by rw [hc2], hB2⟩
    simp [results, Tryd.f28, go_sem, q1, q2]
end Go.Proofs.YtfmkiioahnphbaaDoor

namespace Go.Proofs.YtfmkiioahnphbaaDoor
open Go Go.RowKit Go.Shelf

theorem size_call (c : Int) (w : World) : Calls Tryd.prog 28 #[.int .i64 c] w fun e w' => e = .returned (.tuple #[.int .i64 (csize c).1, .int .i64 (csize c).2]) ∧ Mod No w w' :=
  (size_in c w).mono fun _ _ h => ⟨h.1, Mod.of_below h.2 _⟩

/-- How many slots a page of a class has. -/
def cslots (c : Int) : Int × Int := if 0 ≤ c ∧ c < 8 then (((62 / csz c.toNat : Nat) : Int), 0) else (0, 2)
theorem csize_in {c : Int} (h0 : 0 ≤ c) (h1 : c < 8) : csize c = (((csz c.toNat : Nat) : Int), 0) := if_pos ⟨h0, h1⟩
theorem csize_out {c : Int} (h : ¬ (0 ≤ c ∧ c < 8)) : csize c = (0, 2) := if_neg h
theorem cslots_in {c : Int} (h0 : 0 ≤ c) (h1 : c < 8) : cslots c = (((62 / csz c.toNat : Nat) : Int), 0) := if_pos ⟨h0, h1⟩
theorem cslots_out {c : Int} (h : ¬ (0 ≤ c ∧ c < 8)) : cslots c = (0, 2) := if_neg h
theorem csz_range {k : Nat} (h : k < 8) : 2 ≤ csz k ∧ csz k ≤ 28 ∧ 2 ≤ 62 / csz k ∧ 62 / csz k ≤ 31 ∧ 62 / csz k * csz k ≤ 62 := by
  rcases eight h with rfl | rfl | rfl | rfl | rfl | rfl | rfl | rfl <;> decide

set_option maxRecDepth 100000 in
theorem slots_call (c : Int) (w : World) : Calls Tryd.prog 24 #[.int .i64 c] w fun e w' => e = .returned (.tuple #[.int .i64 (cslots c).1, .int .i64 (cslots c).2]) ∧ Mod No w w' := by
  have hc := size_call c w
  by_cases h : 0 ≤ c ∧ c < 8
  · rw [csize_in h.1 h.2] at hc
    rw [cslots_in h.1 h.2]
    rcases eight (show c.toNat < 8 by omega) with e | e | e | e | e | e | e | e
    all_goals (
      rw [e] at hc ⊢
      simp only [csz, Nat.reduceDiv] at hc ⊢
      push_cast at hc ⊢
      go_enter Tryd.func24, Tryd.ntmps24
      go_wp2_with fail
      refine hc.mono ?_
      rintro e w' ⟨rfl, hm⟩
      clear hc
      go_wp2
      go_ret2
      exact ⟨rfl, hm⟩)
  · rw [csize_out h] at hc
    rw [cslots_out h]
    go_enter Tryd.func24, Tryd.ntmps24
    go_wp2_with fail
    refine hc.mono ?_
    rintro e w' ⟨rfl, hm⟩
    clear hc
    go_wp2
    go_ret2
    exact ⟨rfl, hm⟩

/-- The class of so many words. -/
def clsOf (n : Int) : Nat := if n ≤ 2 then 0 else if n ≤ 3 then 1 else if n ≤ 4 then 2 else if n ≤ 6 then 3 else if n ≤ 9 then 4 else if n ≤ 13 then 5 else if n ≤ 19 then 6 else 7
def cof (n : Int) : Int × Bool × Int := if n < 1 ∨ 4000 < n then (0, false, 2) else if n ≤ 28 then (((clsOf n : Nat) : Int), true, 0) else (0, false, 0)
theorem clsOf_lt (n : Int) : clsOf n < 8 := by unfold clsOf; repeat' split <;> try omega
theorem clsOf_le {n : Int} (h : n ≤ 28) : n ≤ (csz (clsOf n) : Nat) := by
  unfold clsOf
  repeat' split
  all_goals (simp only [csz]; omega)
theorem clsOf_eq {n : Int} {x : Fin 8} (hx : n ≤ (csz x.val : Nat)) (hb : ∀ p : Fin 8, p.val < x.val → ((csz p.val : Nat) : Int) < n) : clsOf n = x.val := by
  obtain ⟨k, hk⟩ := x
  rcases eight hk with rfl | rfl | rfl | rfl | rfl | rfl | rfl | rfl
  · simp only [csz] at hx; unfold clsOf; rw [if_pos (by omega)]
  · have := hb ⟨0, by decide⟩ (by simp); simp only [csz] at hx this; unfold clsOf; rw [if_neg (by omega), if_pos (by omega)]
  · have := hb ⟨1, by decide⟩ (by simp); simp only [csz] at hx this; unfold clsOf; rw [if_neg (by omega), if_neg (by omega), if_pos (by omega)]
  · have := hb ⟨2, by decide⟩ (by simp); simp only [csz] at hx this; unfold clsOf; rw [if_neg (by omega), if_neg (by omega), if_neg (by omega), if_pos (by omega)]
  · have := hb ⟨3, by decide⟩ (by simp); simp only [csz] at hx this; unfold clsOf; rw [if_neg (by omega), if_neg (by omega), if_neg (by omega), if_neg (by omega), if_pos (by omega)]
  · have := hb ⟨4, by decide⟩ (by simp); simp only [csz] at hx this; unfold clsOf; rw [if_neg (by omega), if_neg (by omega), if_neg (by omega), if_neg (by omega), if_neg (by omega), if_pos (by omega)]
  · have := hb ⟨5, by decide⟩ (by simp); simp only [csz] at hx this; unfold clsOf; rw [if_neg (by omega), if_neg (by omega), if_neg (by omega), if_neg (by omega), if_neg (by omega), if_neg (by omega), if_pos (by omega)]
  · have := hb ⟨6, by decide⟩ (by simp); simp only [csz] at hx this; unfold clsOf; rw [if_neg (by omega), if_neg (by omega), if_neg (by omega), if_neg (by omega), if_neg (by omega), if_neg (by omega), if_neg (by omega)]
theorem ccs_last {k : Nat} (hk : k ≤ 8) {pre : List (Fin 8)} {x : Fin 8} (h : pre ++ [x] = ccs k) : ∀ p : Fin 8, p.val < x.val → p ∈ pre := by
  rcases Nat.eq_zero_or_pos k with rfl | h0
  · simp [ccs] at h
  obtain ⟨j, rfl⟩ : ∃ j, k = j + 1 := ⟨k - 1, by omega⟩
  have hj : j < 8 := by omega
  have HX : ccs (j + 1) = ccs j ++ [⟨j, hj⟩] := by rcases eight hj with rfl | rfl | rfl | rfl | rfl | rfl | rfl | rfl <;> rfl
  rw [HX] at h
  obtain ⟨rfl, h2⟩ := List.append_inj' h rfl
  cases h2
  intro p hp
  have : ∀ p : Fin 8, p.val < j → p ∈ ccs j := by
    rcases eight hj with rfl | rfl | rfl | rfl | rfl | rfl | rfl | rfl <;> decide
  exact this p hp

attribute [local go_sem] Oper.semAt_some

set_option maxRecDepth 100000 in
set_option maxHeartbeats 1000000 in
theorem of_in (n : Int) (w : World) : Calls Tryd.prog 35 #[.int .i64 n] w fun e w' => e = .returned (.tuple #[.int .i64 (cof n).1, .bool (cof n).2.1, .int .i64 (cof n).2.2]) ∧ Below w.heap.size w w' := by
  refine (callsIn_wide (n := 3)).1 ?_
  refine callsIn_of_wp_marks Tryd.func35 rfl trivial ?_ rfl
  simp only [Tryd.ntmps35, List.size_toArray, List.length_cons, List.length_nil, Nat.reduceAdd, Nat.reduceSub, Array.replicate_succ, Array.replicate_zero, List.push_toArray, List.append_toArray, List.nil_append, List.cons_append]
  by_cases hbad : n < 1 ∨ 4000 < n
  · have hcof : cof n = (0, false, 2) := if_pos hbad
    have hB4 : Below w.heap.size w ((((w.alloc (.cells #[.int .i64 n] 3)).alloc (.cells #[.int .i64 0] 3)).alloc (.cells #[.bool false] 4)).alloc (.cells #[.int .i64 2] 27)) :=
      ((((Below.refl _ w).alloc (Nat.le_refl _) _).alloc (by simp) _).alloc (by simp; omega) _).alloc (by simp; omega) _
    rcases (show n < 1 ∨ 1 ≤ n ∧ 4000 < n by omega) with h | ⟨h, h'⟩
    · have d1 : decide (n < 1) = true := ltT h
      gi_wp2
      refine ⟨.tuple #[.int .i64 0, .bool false, .int .i64 2], ?_, by rw [hcof], hB4⟩
      simp [results, Tryd.f35, go_sem]
    · have d1 : decide (n < 1) = false := ltF (by omega)
      have d2 : decide (4000 < n) = true := ltT h'
      gi_wp2
      refine ⟨.tuple #[.int .i64 0, .bool false, .int .i64 2], ?_, by rw [hcof], hB4⟩
      simp [results, Tryd.f35, go_sem]
  have d1 : decide (n < 1) = false := ltF (by omega)
  have d2 : decide (4000 < n) = false := ltF (by omega)
  gi_wp2_with (refine ⟨trivial, ?_⟩; gi_at_call 51; refine (callsIn_wide.2 (sizes_call _)).mono ?_; rintro e w' ⟨rfl, rfl⟩)
  obtain ⟨W0, hW0⟩ : ∃ x, (((w.alloc (.cells #[.int .i64 n] 3)).alloc (.cells #[.int .i64 0] 3)).alloc (.cells #[.bool false] 4)).alloc (.cells #[.int .i64 0] 27) = x := ⟨_, rfl⟩
  have hsz : W0.heap.size = w.heap.size + 4 := by rw [← hW0]; simp
  have hb0 : Below w.heap.size w W0 := by rw [← hW0]; exact ((((Below.refl _ w).alloc (Nat.le_refl _) _).alloc (by simp) _).alloc (by simp; omega) _).alloc (by simp; omega) _
  have hc0 : Cel [(w.heap.size, .int .i64 n), (w.heap.size + 1, .int .i64 0), (w.heap.size + 1 + 1, .bool false), (w.heap.size + 1 + 1 + 1, .int .i64 0)] W0 := by
    rw [← hW0]
    exact ((((Cel.nil w).new _ _ rfl).new _ _ (by simp)).new _ _ (by simp)).new _ _ (by simp)
  rw [hW0]
  clear hW0
  refine wpIn_rangeFunc_ownF rfl (by omega) (gf := 71) (lb := #[]) rfl trivial (enters_of Tryd.func71 (by kernel_rfl) rfl) (sizes_stops (Below w.heap.size) 2 (by omega) W0) belowK_t (belowK_b (by omega)) (Below.refl _ _) (fun _ => rfl)
    (fun pre W => ((∀ p ∈ pre, ((csz p.val : Nat) : Int) < n) ∧ Cel [(w.heap.size, .int .i64 n), (w.heap.size + 1, .int .i64 0), (w.heap.size + 1 + 1, .bool false), (w.heap.size + 1 + 1 + 1, .int .i64 0)] W) ∧ Below w.heap.size w W)
    (fun q pre W => ((q = .ret ∧ ∃ pre' x, pre = pre' ++ [x] ∧ (∀ p ∈ pre', ((csz p.val : Nat) : Int) < n) ∧ n ≤ (csz x.val : Nat)) ∧ (∃ x : Fin 8, (∃ pre', pre = pre' ++ [x]) ∧ Cel [(w.heap.size, .int .i64 n), (w.heap.size + 1, .int .i64 ((x.val : Nat) : Int)), (w.heap.size + 1 + 1, .bool true), (w.heap.size + 1 + 1 + 1, .int .i64 0)] W)) ∧ Below w.heap.size w W)
    (OwnFrom.and (Own.from (Own.and' (pure_own _) (cel_own _)) _) (ownFrom_below (Nat.le_refl _) (by omega)))
    (fun q => OwnFrom.and (Own.from (Own.and' (pure_own _) (fun s A B row hs hg hr => by obtain ⟨x, hx, hC⟩ := hs; exact ⟨x, hx, cel_own (β := Unit) _ () _ _ _ hC hg hr⟩)) _) (ownFrom_below (Nat.le_refl _) (by omega)))
    ⟨⟨by simp, hc0⟩, hb0⟩
    (fun x => { tmps := #[.int .i64 n, .pointer (some ⟨w.heap.size, 0, none⟩), .pointer (some ⟨w.heap.size + 1, 0, none⟩), .pointer (some ⟨w.heap.size + 1 + 1, 0, none⟩), .pointer (some ⟨w.heap.size + 1 + 1 + 1, 0, none⟩), .int .i64 ((x.val : Nat) : Int), .int .i64 ((csz x.val : Nat) : Int), .int .i64 n, .bool false, .bool false, .int .i64 n, .bool false, .bool false, .func (.func 71) #[] #[], .int .i64 ((x.val : Nat) : Int), .int .i64 ((csz x.val : Nat) : Int), undef, undef, undef, undef], defers := [] }) ?assign ?body ?done ?stop
  case assign =>
    intro l x W K hK
    gi_wp2
    exact hK
  case body =>
    rintro l pre x W ⟨⟨hne, hC⟩, hB⟩ hlt
    have h1 := (hC.get 0 rfl).1
    have h21 := (hC.get 1 rfl).1
    have h22 := (hC.get 1 rfl).2
    have h31 := (hC.get 2 rfl).1
    have h32 := (hC.get 2 rfl).2
    have h41 := (hC.get 3 rfl).1
    have h42 := (hC.get 3 rfl).2
    by_cases hx : n ≤ (csz x.val : Nat)
    · have hxb : decide (n ≤ ((csz x.val : Nat) : Int)) = true := leT hx
      have hset := hC.set3 (by omega) (by omega) (by omega) (by omega) (by omega) (by omega) (.int .i64 ((x.val : Nat) : Int)) (.bool true) (.int .i64 0)
      have HS := Lib.hid hset
      have HX := Lib.hid hx
      have HN := Lib.hid hne
      clear hset hC hne hlt hx
      gi_wp2
      exact ⟨((KeepsOthers.setCell _ _ _).trans (KeepsOthers.setCell _ _ _)).trans (KeepsOthers.setCell _ _ _), ⟨⟨rfl, pre, x, rfl, HN.out, HX.out⟩, x, ⟨pre, rfl⟩, HS.out⟩, ((hB.setCell (p := ⟨w.heap.size + 1, 0, none⟩) (by simp) _).setCell (p := ⟨w.heap.size + 1 + 1, 0, none⟩) (by simp; omega) _).setCell (p := ⟨w.heap.size + 1 + 1 + 1, 0, none⟩) (by simp; omega) _⟩
    · have hxb : decide (n ≤ ((csz x.val : Nat) : Int)) = false := leF (by omega)
      have HX := Lib.hid (show ∀ p ∈ pre ++ [x], ((csz p.val : Nat) : Int) < n from fun p hp => by
        rcases List.mem_append.1 hp with hp | hp
        · exact hne p hp
        · rw [List.mem_singleton.1 hp]; omega)
      clear hne hx hlt
      gi_wp2
      exact ⟨KeepsOthers.refl _, Below.refl _ _, ⟨HX.out, hC⟩, hB⟩
  case done =>
    rintro D xs W hD rfl ⟨⟨hne, hC⟩, hB⟩ hK
    have hcs : cof n = (0, false, 0) := by
      have := hne ⟨7, by decide⟩ (ccs_all _)
      simp only [csz] at this
      unfold cof
      rw [if_neg hbad, if_neg (by omega)]
    have h21 := (hC.get 1 rfl).1
    have h22 := (hC.get 1 rfl).2
    have h31 := (hC.get 2 rfl).1
    have h32 := (hC.get 2 rfl).2
    have h41 := (hC.get 3 rfl).1
    have h42 := (hC.get 3 rfl).2
    have hset := hC.set3 (by omega) (by omega) (by omega) (by omega) (by omega) (by omega) (.int .i64 0) (.bool false) (.int .i64 0)
    have hK' := (((KeepsOthers.setCell W ⟨w.heap.size + 1, 0, none⟩ (.int .i64 0)).trans (KeepsOthers.setCell _ ⟨w.heap.size + 1 + 1, 0, none⟩ (.bool false))).trans (KeepsOthers.setCell _ ⟨w.heap.size + 1 + 1 + 1, 0, none⟩ (.int .i64 0))).same D _ hK rfl
    have hB' := ((hB.setCell (p := ⟨w.heap.size + 1, 0, none⟩) (by simp) (.int .i64 0)).setCell (p := ⟨w.heap.size + 1 + 1, 0, none⟩) (by simp; omega) (.bool false)).setCell (p := ⟨w.heap.size + 1 + 1 + 1, 0, none⟩) (by simp; omega) (.int .i64 0)
    have hC' := hset.put hK' rfl (.deferred none)
    have hB2 := hB'.trans (belowK_b (w := w) (Nat.le_refl _) _ D _ (.deferred none) (by omega) hK' rfl rfl)
    have q1 := (hC'.get 1 rfl).1
    have q2 := (hC'.get 2 rfl).1
    have q3 := (hC'.get 3 rfl).1
    have HH := Lib.hid (And.intro hK' hB2)
    clear hset hC' hB' hC hK' hB2
    gi_wp2
    refine ⟨by simp, .inl ⟨_, _, rfl, run_takeDeferred HH.out.1, ?_⟩⟩
    refine ⟨.tuple #[.int .i64 0, .bool false, .int .i64 0], ?_, by rw [hcs], HH.out.2⟩
    simp [results, Tryd.f35, go_sem, q1, q2, q3]
  case stop =>
    rintro D q pre W hD ⟨k, hk, hpk⟩ ⟨⟨⟨rfl, pre', x, rfl, hlt, hle⟩, x', ⟨pre'', hx'⟩, hC⟩, hB⟩ hK
    obtain ⟨rfl, h2⟩ := List.append_inj' hx' rfl
    cases h2
    have hcl := clsOf_eq hle fun p hp => hlt p (ccs_last hk hpk p hp)
    have hcs : cof n = (((x.val : Nat) : Int), true, 0) := by
      have h28 := csz_range x.isLt
      unfold cof
      rw [if_neg hbad, if_pos (by omega), hcl]
    have hC' := hC.put hK rfl (.deferred none)
    have hB2 := hB.trans (belowK_b (w := w) (Nat.le_refl _) W D _ (.deferred none) (by omega) hK rfl rfl)
    have q1 := (hC'.get 1 rfl).1
    have q2 := (hC'.get 2 rfl).1
    have q3 := (hC'.get 3 rfl).1
    gi_wp2
    refine ⟨by simp, .inl ⟨_, _, rfl, run_takeDeferred hK, ?_⟩⟩
    refine ⟨.tuple #[.int .i64 ((x.val : Nat) : Int), .bool true, .int .i64 0], ?_, (by first | rfl | rw [hcs]), hB2⟩
    simp [results, Tryd.f35, go_sem, q1, q2, q3]

theorem of_call (n : Int) (w : World) : Calls Tryd.prog 35 #[.int .i64 n] w fun e w' => e = .returned (.tuple #[.int .i64 (cof n).1, .bool (cof n).2.1, .int .i64 (cof n).2.2]) ∧ Mod No w w' :=
  (of_in n w).mono fun _ _ h => ⟨h.1, Mod.of_below h.2 _⟩
end Go.Proofs.YtfmkiioahnphbaaDoor

namespace Go.Proofs.YtfmkiioahnphbaaDoor
open Go Go.RowKit Go.Shelf

/-- How many pages so many words take. -/
def cpages (n : Int) : Int × Int := if n < 1 ∨ 4000 < n then (0, 2) else if n ≤ 28 then (1, 0) else ((n + 65) / 64, 0)
theorem cpages_bad {n : Int} (h : n < 1 ∨ 4000 < n) : cpages n = (0, 2) := if_pos h
theorem cpages_small {n : Int} (h1 : 1 ≤ n) (h2 : n ≤ 28) : cpages n = (1, 0) := by unfold cpages; rw [if_neg (by omega), if_pos h2]
theorem cpages_large {n : Int} (h1 : 28 < n) (h2 : n ≤ 4000) : cpages n = ((n + 65) / 64, 0) := by unfold cpages; rw [if_neg (by omega), if_neg (by omega)]
theorem cof_bad {n : Int} (h : n < 1 ∨ 4000 < n) : cof n = (0, false, 2) := if_pos h
theorem cof_small {n : Int} (h1 : 1 ≤ n) (h2 : n ≤ 28) : cof n = (((clsOf n : Nat) : Int), true, 0) := by unfold cof; rw [if_neg (by omega), if_pos h2]
theorem cof_large {n : Int} (h1 : 28 < n) (h2 : n ≤ 4000) : cof n = (0, false, 0) := by unfold cof; rw [if_neg (by omega), if_neg (by omega)]

set_option maxRecDepth 100000 in
theorem pages_call (n : Int) (w : World) : Calls Tryd.prog 36 #[.int .i64 n] w fun e w' => e = .returned (.tuple #[.int .i64 (cpages n).1, .int .i64 (cpages n).2]) ∧ Mod No w w' := by
  have hc := of_call n w
  by_cases hb : n < 1 ∨ 4000 < n
  · rw [cof_bad hb] at hc
    rw [cpages_bad hb]
    clear hb
    go_enter Tryd.func36, Tryd.ntmps36
    go_wp2_with fail
    refine hc.mono ?_
    rintro e w' ⟨rfl, hm⟩
    clear hc
    go_wp2
    go_ret2
    exact ⟨rfl, hm⟩
  by_cases hs : n ≤ 28
  · rw [cof_small (by omega) hs] at hc
    rw [cpages_small (by omega) hs]
    generalize ((clsOf n : Nat) : Int) = c at *
    clear hb hs
    go_enter Tryd.func36, Tryd.ntmps36
    go_wp2_with fail
    refine hc.mono ?_
    rintro e w' ⟨rfl, hm⟩
    clear hc
    go_wp2
    go_ret2
    exact ⟨rfl, hm⟩
  · rw [cof_large (by omega) (by omega)] at hc
    rw [cpages_large (by omega) (by omega)]
    have h0 : 0 ≤ n := by omega
    have h1 : n ≤ 4000 := by omega
    have e2 : IntKind.i64.wrap ((n + 65).tdiv 64) = (n + 65) / 64 := by
      rw [Int.tdiv_eq_ediv_of_nonneg (by omega)]
      exact wrap_small _ (by omega) (by omega)
    have e3 : (n + 65).tdiv 64 = (n + 65) / 64 := Int.tdiv_eq_ediv_of_nonneg (by omega)
    have e4 : n + 2 + 64 - 1 = n + 65 := by omega
    clear hb hs
    go_enter Tryd.func36, Tryd.ntmps36
    go_wp2_with fail
    refine hc.mono ?_
    rintro e w' ⟨rfl, hm⟩
    clear hc
    go_wp2
    go_ret2
    exact ⟨by rw [← e4]; rfl, hm⟩

/-- Where a slot begins. -/
def cplace (c k : Int) : Int × Int := if (0 ≤ c ∧ c < 8) ∧ 0 ≤ k ∧ k < (cslots c).1 then (2 + k * (csize c).1, 0) else (0, 2)

set_option maxRecDepth 100000 in
theorem place_call (c k : Int) (w : World) : Calls Tryd.prog 50 #[.int .i64 c, .int .i64 k] w fun e w' => e = .returned (.tuple #[.int .i64 (cplace c k).1, .int .i64 (cplace c k).2]) ∧ Mod No w w' := by
  have hc := slots_call c w
  have hd := fun w => size_call c w
  by_cases h : 0 ≤ c ∧ c < 8
  · have hr := csz_range (show c.toNat < 8 by omega)
    have hs1 : (cslots c).1 = ((62 / csz c.toNat : Nat) : Int) := by rw [cslots_in h.1 h.2]
    have hs2 : (cslots c).2 = 0 := by rw [cslots_in h.1 h.2]
    have hz1 : (csize c).1 = ((csz c.toNat : Nat) : Int) := by rw [csize_in h.1 h.2]
    have hz2 : (csize c).2 = 0 := by rw [csize_in h.1 h.2]
    rw [hs2] at hc
    have hd2 : ∀ w, Calls Tryd.prog 28 #[.int .i64 c] w fun e w' => e = .returned (.tuple #[.int .i64 (csize c).1, .int .i64 0]) ∧ Mod No w w' := fun w => by
      have := hd w
      rw [hz2] at this
      exact this
    have hb1 : 2 ≤ (csize c).1 := by omega
    have hb2 : (csize c).1 ≤ 28 := by omega
    have hb3 : (cslots c).1 ≤ 31 := by omega
    have HD := Lib.hid hd2
    clear hd hd2 hs1 hs2 hz1 hz2 hr
    by_cases hk0 : k < 0
    · have e : cplace c k = (0, 2) := if_neg (by omega)
      rw [e]
      have d1 : decide (k < 0) = true := ltT hk0
      generalize (cslots c).1 = N at *
      clear e h
      go_enter Tryd.func50, Tryd.ntmps50
      go_wp2_with fail
      refine hc.mono ?_
      rintro e w' ⟨rfl, hm⟩
      clear hc
      go_wp2
      go_ret2
      exact ⟨rfl, hm⟩
    have d1 : decide (k < 0) = false := ltF (by omega)
    by_cases hk1 : (cslots c).1 ≤ k
    · have e : cplace c k = (0, 2) := if_neg (by omega)
      rw [e]
      have d2 : decide ((cslots c).1 ≤ k) = true := leT hk1
      generalize (cslots c).1 = N at *
      clear e h hk1 hk0
      go_enter Tryd.func50, Tryd.ntmps50
      go_wp2_with fail
      refine hc.mono ?_
      rintro e w' ⟨rfl, hm⟩
      clear hc
      go_wp2
      go_ret2
      exact ⟨rfl, hm⟩
    · have e : cplace c k = (2 + k * (csize c).1, 0) := if_pos ⟨h, by omega, by omega⟩
      rw [e]
      have d2 : decide ((cslots c).1 ≤ k) = false := leF (by omega)
      have hk2 : k ≤ 30 := by omega
      have hk3 : 0 ≤ k := by omega
      have hm1 : 0 ≤ k * (csize c).1 := Int.mul_nonneg hk3 (by omega)
      have hm2 : k * (csize c).1 ≤ 30 * 28 := Int.mul_le_mul hk2 hb2 (by omega) (by omega)
      have e5 : IntKind.i64.wrap (k * (csize c).1) = k * (csize c).1 := wrap_small _ (by omega) (by omega)
      have e6 : IntKind.i64.wrap (2 + k * (csize c).1) = 2 + k * (csize c).1 := wrap_small _ (by omega) (by omega)
      generalize (cslots c).1 = N at *
      generalize (csize c).1 = z at *
      clear e h hk1 hk0
      go_enter Tryd.func50, Tryd.ntmps50
      go_wp2_with fail
      refine hc.mono ?_
      rintro e w' ⟨rfl, hm⟩
      clear hc
      go_wp2_with fail
      refine (HD.out _).mono ?_
      rintro e w2 ⟨rfl, hm2⟩
      go_wp2
      go_ret2
      exact ⟨rfl, hm.trans' hm2⟩
  · have e : cplace c k = (0, 2) := if_neg (fun x => h x.1)
    rw [e]
    rw [cslots_out h] at hc
    clear hd e h
    go_enter Tryd.func50, Tryd.ntmps50
    go_wp2_with fail
    refine hc.mono ?_
    rintro e w' ⟨rfl, hm⟩
    clear hc
    go_wp2
    go_ret2
    exact ⟨rfl, hm⟩
end Go.Proofs.YtfmkiioahnphbaaDoor
