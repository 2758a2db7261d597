/- slab.Slab: Pages, walked, by the shelf's contracts of maps.Keys and slices.Sorted. Conditions: the arena is as said. -/
import Derived.Test.YtfmkiioahnphbaaDoorPagesShelf
import Derived.Test.YtfmkiioahnphbaaDoorSlabAll
set_option linter.unusedVariables false
set_option linter.unusedSimpArgs false
set_option maxRecDepth 100000
namespace Go.Proofs.YtfmkiioahnphbaaDoor
open Go Go.RowKit Go.Maps Go.Sort Go.Shelf

variable {F0 : Nat → Prop} {w0 w : World} {Ps : List Res}

/-- slices.Sort's two contracts at this dump, at the fence that asks nothing. -/
theorem sortsA (m : Nat) : AnyZI.SortsIn Tryd.prog Tryd.sortedA_ren Fence.wide m :=
  ⟨fun blk off cap ss W hH hblk hsz => callsIn_wide.2 (AnyM.slices_Sort_int Tryd.sortA blk off cap ss W hH hblk hsz),
   fun p cap W => callsIn_wide.2 (AnyM.slices_Sort_int_none Tryd.sortA p cap W)⟩

theorem sorted_natcast {L : List Nat} (hL : L.Pairwise (· < ·)) {ss : List Int} (hp : ss.Perm (L.map fun k : Nat => (k : Int))) : ss.mergeSort (fun x y => decide (x ≤ y)) = L.map fun k : Nat => (k : Int) := by
  have h1 : (ss.mergeSort (fun x y => decide (x ≤ y))).Perm (L.map fun k : Nat => (k : Int)) := (List.mergeSort_perm _ _).trans hp
  have h2 : (ss.mergeSort (fun x y => decide (x ≤ y))).Pairwise (fun a b => a ≤ b) := by
    have := List.pairwise_mergeSort (le := fun x y : Int => decide (x ≤ y)) (fun a b c h1 h2 => by simp at *; omega) (fun a b => by simp; omega) ss
    exact this.imp (by simp)
  have h3 : (L.map fun k : Nat => (k : Int)).Pairwise (fun a b => a ≤ b) := List.pairwise_map.2 (hL.imp (by omega))
  exact h1.eq_of_pairwise (fun a b _ _ h1 h2 => by omega) h2 h3

set_option maxRecDepth 100000 in
set_option maxHeartbeats 1000000 in
theorem spages {s b : Nat} {quota : Int} {L : List Nat} {p : Nat → Nat} {wd : Nat → Int} (h : SlabM w s b quota L p wd) (hL : L.Pairwise (· < ·)) (hl : L.length ≤ 1000000) :
    Calls Tryd.prog 47 #[.pointer (some ⟨s, 0, none⟩)] w fun e w' => ∃ v, e = .returned v ∧ Sep No w w' [intsAt 3 .i64 v (L.map fun k : Nat => (k : Int))] := by
  refine (callsIn_wide (n := 6)).1 ?_
  have hN := (callsIn_wide (n := 5)).2 h.there
  have c1 := h.c1
  obtain ⟨D, hown, hM⟩ := h.map
  have hown := ownsMap_tight hown
  have hsz := hM.size
  have hbl := hown.lt
  have hseq : SeqGives Fence.wide 2 Tryd.prog 78 #[.pointer (some ⟨w.heap.size, 0, none⟩)] encZ (fun ss => ss.Perm (intKeys D)) (Maps.size D) (w.alloc (.cells #[.map (some b)] 53)) :=
    AnyZI.keys_gives (ρ := Tryd.keysA_ren) { Tryd.keysA with } Fence.wide _ trivial rfl (by omega) w.heap.size b _ D _ (by simp) (by simp) (ownsMap_heap hown (Below.heap_alloc _ _ b hbl))
  have cK : ∀ mb W, CallsIn Fence.wide 5 Tryd.prog 70 #[.map mb] W fun e w' => e = .returned (.func (.func 78) #[] #[.pointer (some ⟨W.heap.size, 0, none⟩)]) ∧ w' = W.alloc (.cells #[.map mb] 53) := fun mb W => AnyZI.keys_in Tryd.keysA Fence.wide 5 trivial rfl mb W
  have cS := AnyZI.sorted_in Tryd.sortedA Fence.wide 5 trivial trivial trivial trivial rfl (by omega) (sortsA _) (enters_of Tryd.func77 (by kernel_rfl) rfl) 78 #[.pointer (some ⟨w.heap.size, 0, none⟩)] trivial (enters_of Tryd.func78 (by kernel_rfl) rfl) _ _ (by rw [hsz]; unfold maxLen; omega) (by rw [hsz]; omega) _ hseq
  change CallsIn _ _ Tryd.prog 69 _ _ _ at cS
  have hfK : Fence.wide.fn 70 := trivial
  have hfS : Fence.wide.fn 69 := trivial
  have hfN : Fence.wide.fn 18 := trivial
  have hkeys := Lib.hid hM.keys
  clear h hown hseq hM hsz
  refine callsIn_of_wp Tryd.func47 rfl trivial ?_ rfl
  simp only [Tryd.ntmps47, List.size_toArray, List.length_cons, List.length_nil, Nat.reduceAdd, Nat.reduceSub, Array.replicate_succ, Array.replicate_zero, List.push_toArray, List.append_toArray, List.nil_append, List.cons_append]
  gi_wp2_with (first
    | (gi_at_call 18; refine hN.mono ?_; rintro e w' ⟨rfl, rfl⟩)
    | (gi_at_call 70; refine (cK _ _).mono ?_; rintro e w' ⟨rfl, rfl⟩)
    | (gi_at_call 69; refine cS.mono ?_; rintro e w' ⟨v, ss, rfl, hS, hrow, hnil, hb⟩))
  go_ret
  refine ⟨v, rfl, ?_⟩
  have he := sorted_natcast hL (hS.trans hkeys.out)
  have hlen : ss.length = L.length := by have := (hS.trans hkeys.out).length_eq; simpa using this
  have hbel : Below w.heap.size w w' := ((Below.refl _ w).alloc (Nat.le_refl _) _).trans (hb.mono (by simp))
  rw [he, hlen] at hrow
  have hr2 : w'.ownsRow w.heap.size 3 1 v L.length ((L.map fun k : Nat => (k : Int)).map (Value.int .i64)) := ownsRow_base_a hrow (by simp)
  refine (Sep.nil w).push _ (fun k => v.ownBlock = some k) (w' := w') ⟨?_, rfl⟩ (Mod.of_below hbel _) ?_
  · rw [List.length_map]
    exact ownsRow_base_a hr2 (Nat.zero_le _)
  · intro k hk
    rcases hr2.2 with ⟨rfl, _⟩ | ⟨g, cap, cur, rfl, hb', _⟩
    · simp [Value.ownBlock] at hk
    · simp only [Value.ownBlock, Option.some.injEq] at hk
      omega

/-- Pages. -/
theorem Sep.sPages (h : Sep F0 w0 w Ps) (i : Nat) {s : Nat} {S : Slb} (hi : Ps[i]? = some (slabR s S)) :
    Calls Tryd.prog 47 #[.pointer (some ⟨s, 0, none⟩)] w fun e w' => ∃ v, e = .returned v ∧ Sep F0 w0 w' (Ps ++ [intsAt 3 .i64 v (S.pg.map fun k : Nat => (k : Int))]) := by
  obtain ⟨b, p, hM, hS, back⟩ := h.sGet i hi
  refine (spages hM hS.sorted (by have := hS.fit; have := hS.q1; omega)).mono ?_
  rintro e w' ⟨v, rfl, h1⟩
  exact ⟨v, rfl, h.join h1⟩
end Go.Proofs.YtfmkiioahnphbaaDoor
