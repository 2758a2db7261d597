/- slices.All over words, walked: its contract. Condition: the words lie where the box says. -/
import Derived.Test.YtfmcddomciicdaaDoorCollect
set_option linter.unusedVariables false
set_option linter.unusedSimpArgs false
set_option maxRecDepth 100000
namespace Go.Proofs.YtfmcddomciicdaaDoor
open Go Go.RowKit Go.Shelf

attribute [local go_sem] Oper.semAt_some

/-- A word at a place below n. -/
abbrev WordIn (n : Nat) := { p : Nat × Int // p.1 < n ∧ 0 ≤ p.2 ∧ p.2 < 18446744073709551616 }
abbrev encP {n : Nat} (p : WordIn n) : Array Value := #[.int .i64 (p.1.1 : Nat), .int .u64 p.1.2]
def pairs (xs : List Int) (k : Nat) : List (Nat × Int) := (List.range k).map fun i => (i, xs.getD i 0)
theorem pairs_succ (xs : List Int) (k : Nat) : pairs xs (k + 1) = pairs xs k ++ [(k, xs.getD k 0)] := by simp [pairs, List.range_succ]
theorem pairs_len (xs : List Int) (k : Nat) : (pairs xs k).length = k := by simp [pairs]
/-- Words put one by one. -/
def putL (w : List Int) (l : List (Nat × Int)) : List Int := l.foldl (fun w p => w.set p.1 p.2) w
theorem putL_snoc (w : List Int) (l : List (Nat × Int)) (p : Nat × Int) : putL w (l ++ [p]) = (putL w l).set p.1 p.2 := by simp [putL]
theorem putL_len (l : List (Nat × Int)) : ∀ w : List Int, (putL w l).length = w.length := by
  induction l with
  | nil => intro w; rfl
  | cons p l ih =>
    intro w
    show (putL (w.set p.1 p.2) l).length = _
    rw [ih, List.length_set]
theorem putL_pairs {xs w : List Int} (hl : xs.length = w.length) : ∀ k, k ≤ xs.length → putL w (pairs xs k) = xs.take k ++ w.drop k
  | 0, _ => by simp [putL, pairs]
  | k + 1, hk => by
    rw [pairs_succ, putL_snoc, putL_pairs hl k (by omega)]
    have hx : xs[k]? = some xs[k] := List.getElem?_eq_getElem (by omega)
    have hg : xs.getD k 0 = xs[k] := by rw [List.getD_eq_getElem?_getD, hx]; rfl
    rw [hg, List.take_add_one, hx]
    have hd : w.drop k = w[k] :: w.drop (k + 1) := List.drop_eq_getElem_cons (by omega)
    rw [hd, List.set_append_right _ _ (by simp; omega)]
    rw [show k - (xs.take k).length = 0 by rw [List.length_take]; omega, List.set_cons_zero, Option.toList_some, List.append_assoc]
    rfl
theorem putL_all {xs w : List Int} (hl : xs.length = w.length) : putL w (pairs xs xs.length) = xs := by
  rw [putL_pairs hl _ (Nat.le_refl _), List.take_length, hl, List.drop_length, List.append_nil]
/-- A box that holds a slice of these words. -/
structure AllAt (B g n : Nat) (xs : List Int) (W : World) : Prop where
  box : W.cell? ⟨B, 0, none⟩ = some (.slice (some ⟨g, 0, none⟩) n n)
  row : ∀ (k : Nat) (x : Int), xs[k]? = some x → W.cell? ⟨g, k, none⟩ = some (.int .u64 x)
theorem AllAt.below {B g n : Nat} {xs : List Int} {w W : World} (h : AllAt B g n xs w) (hb : Below w.heap.size w W) : AllAt B g n xs W :=
  ⟨(hb.cell (p := ⟨B, 0, none⟩) (World.block_lt_of_cell? w ⟨B, 0, none⟩ h.box)).trans h.box, fun k x hx => (hb.cell (p := ⟨g, k, none⟩) (World.block_lt_of_cell? w ⟨g, k, none⟩ (h.row k x hx))).trans (h.row k x hx)⟩

theorem all_call (s : Option Addr) (n c : Nat) (w : World) : Calls Tryd.prog 119 #[.slice s n c] w fun e w' => e = .returned (.func (.func 125) #[] #[.pointer (some ⟨w.heap.size, 0, none⟩)]) ∧ w.alloc (.cells #[.slice s n c] 48) = w' := by
  go_enter Tryd.func119, Tryd.ntmps119
  go_wp2
  go_ret
  exact ⟨rfl, rfl⟩

set_option maxRecDepth 100000 in
set_option maxHeartbeats 2000000 in
theorem all_stops {B g n : Nat} {xs : List Int} (hn : xs.length = n) (hl : n ≤ 1000000) (hx0 : ∀ v ∈ xs, 0 ≤ v ∧ v < 18446744073709551616) (w : World) (hP : AllAt B g n xs w) (m : Nat) (hm : 1 ≤ m) :
    SeqStopsK Fence.wide m Tryd.prog 125 #[.pointer (some ⟨B, 0, none⟩)] (encP (n := n)) (fun X Y => AllAt B g n xs X → AllAt B g n xs Y) (fun ps => ps.map (·.1) = pairs xs n) (fun pre => ∃ k, pre.map (·.1) = pairs xs k) n w := fun l J Jx W hW hJ hJx hY hJ0 => by
  have hA := hP.below hW
  have c0 := hA.box
  have HN := Lib.hid hn
  have HX0 := Lib.hid hx0
  have HY := Lib.hid hY
  have HJ0 := Lib.hid (And.intro hA hJ0)
  clear hP hW hJ hJx hY hJ0 hA hn hx0
  refine callsIn_of_wp Tryd.func125 rfl trivial ?_ rfl
  simp only [Tryd.ntmps125, List.size_toArray, List.length_cons, List.length_nil, Nat.reduceAdd, Nat.reduceSub, Array.replicate_succ, Array.replicate_zero, List.push_toArray, List.append_toArray, List.nil_append, List.cons_append]
  gi_wp2_with fail
  gi_loopw [7] (fun iv wr => ∃ (k : Nat) (pre : List (WordIn n)), k ≤ n ∧ iv = .int .i64 k ∧ pre.map (·.1) = pairs xs k ∧ J pre wr ∧ AllAt B g n xs wr) (fun iv _ => n - (RowKit.intOf iv).toNat)
  case atStart => exact ⟨0, [], Nat.zero_le _, rfl, rfl, HJ0.out.2, HJ0.out.1⟩
  case round =>
    obtain ⟨k, pre, hk, rfl, hpre, hJr, hA⟩ := hrel
    clear HJ0 c0
    by_cases hlt : k < n
    · obtain ⟨x, hx⟩ : ∃ x, xs[k]? = some x := ⟨_, List.getElem?_eq_getElem (by rw [HN.out]; exact hlt)⟩
      have cx := hA.row k x hx
      have hgd : xs.getD k 0 = x := by rw [List.getD_eq_getElem?_getD, hx]; rfl
      obtain ⟨fn, tmps, assign, body, hy, hR⟩ := HY.out pre ⟨(k, x), hlt, HX0.out x (List.mem_of_getElem? hx)⟩ wr hJr (by have := congrArg List.length hpre; rw [List.length_map, pairs_len] at this; omega)
      dsimp only [encP] at hy
      have HA := Lib.hid hA
      have HT : Hid ((pre ++ [(⟨(k, x), hlt, HX0.out x (List.mem_of_getElem? hx)⟩ : WordIn n)]).map (·.1) = pairs xs (k + 1)) := by
        show _ = _
        rw [pairs_succ, hgd, List.map_append, hpre]
        rfl
      have hlt' : (k : Int) < (n : Int) := by omega
      clear hJr hA hgd hpre
      gi_wp2
      refine hR.mono ?_
      rintro e W5 (⟨rfl, hJ5, hK5⟩ | ⟨rfl, hx5⟩)
      · have H5 := Lib.hid (And.intro hJ5 (hK5 HA.out))
        clear hJ5 hK5
        gi_wp2
        go_roundw
        case rel => exact ⟨k + 1, _, by omega, by go_num, HT.out, H5.out.1, H5.out.2⟩
        case measure => simp [RowKit.intOf]; omega
      · have H5 := Lib.hid hx5
        clear hx5
        gi_wp2
        refine bodyPost_ret (results_none rfl _ _ _) rfl ?_
        exact ⟨⟨_, rfl⟩, .inr ⟨_, ⟨k + 1, HT.out⟩, H5.out⟩⟩
    · obtain rfl : k = n := by omega
      have HQ := Lib.hid (And.intro hpre hJr)
      clear hJr hA hlt hpre
      gi_wp2
      go_end0
      exact ⟨⟨_, rfl⟩, .inl ⟨_, HQ.out.1, HQ.out.2⟩⟩
end Go.Proofs.YtfmcddomciicdaaDoor
