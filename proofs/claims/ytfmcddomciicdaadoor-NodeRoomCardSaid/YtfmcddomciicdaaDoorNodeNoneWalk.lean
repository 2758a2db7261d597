/- NodeNone, walked. Condition: the table of math/bits holds what its initialiser lays. -/
import Derived.Test.YtfmcddomciicdaaDoorAwake10
import Derived.Test.YtfmcddomciicdaaDoorArgsFlat
set_option linter.unusedVariables false
set_option linter.unusedSimpArgs false
set_option maxRecDepth 100000
namespace Go.Proofs.YtfmcddomciicdaaDoor
open Go Go.RowKit

abbrev kinds6 : List (Option IntKind) := [some .u64, some .u64, some .u64, some .u64, some .u64, some .u64]
/-- A node's six words. -/
theorem kinds_six {l : List Int} (h : Kinds kinds6 l) : ∃ x0 x1 x2 x3 x4 x5, l = [x0, x1, x2, x3, x4, x5] ∧ ∀ x ∈ [x0, x1, x2, x3, x4, x5], 0 ≤ x ∧ x < 18446744073709551616 := by
  obtain ⟨hl, hk⟩ := h
  match l, hl with
  | [x0, x1, x2, x3, x4, x5], _ =>
    refine ⟨x0, x1, x2, x3, x4, x5, rfl, fun x hx => ?_⟩
    obtain ⟨j, hj⟩ := List.mem_iff_getElem?.1 hx
    have hj6 := (List.getElem?_eq_some_iff.1 hj).1
    have hks : kinds6[j]? = some (some .u64) := by
      match j, hj6 with
      | 0, _ => rfl
      | 1, _ => rfl
      | 2, _ => rfl
      | 3, _ => rfl
      | 4, _ => rfl
      | 5, _ => rfl
    have hb := bounds_u64 (hk j _ x hks hj)
    omega

abbrev node6 (x0 x1 x2 x3 x4 x5 : Int) : Array Value := #[.int .u64 x0, .int .u64 x1, .int .u64 x2, .int .u64 x3, .int .u64 x4, .int .u64 x5]
theorem Sep.six {F0 : Nat → Prop} {w0 w : World} {Ps : List Res} (h : Sep F0 w0 w Ps) (i : Nat) {b : Nat} {x0 x1 x2 x3 x4 x5 : Int} {T : TypeId} (hi : Ps[i]? = some (cellsAt b #[.int .u64 x0, .int .u64 x1, .int .u64 x2, .int .u64 x3, .int .u64 x4, .int .u64 x5] T)) :
    w.cell? ⟨b, 0, none⟩ = some (.int .u64 x0) ∧ w.cell? ⟨b, 1, none⟩ = some (.int .u64 x1) ∧ w.cell? ⟨b, 2, none⟩ = some (.int .u64 x2) ∧ w.cell? ⟨b, 3, none⟩ = some (.int .u64 x3) ∧ w.cell? ⟨b, 4, none⟩ = some (.int .u64 x4) ∧ w.cell? ⟨b, 5, none⟩ = some (.int .u64 x5) :=
  ⟨(h.cell i hi 0 rfl).1, (h.cell i hi 1 rfl).1, (h.cell i hi 2 rfl).1, (h.cell i hi 3 rfl).1, (h.cell i hi 4 rfl).1, (h.cell i hi 5 rfl).1⟩

set_option maxHeartbeats 2000000 in
theorem none_in10 (hh : Int) (x0 x1 x2 x3 x4 x5 : Int) (w : World) (h0 : 0 ≤ hh ∧ hh < 18446744073709551616) (hT : Tab64 w) :
    Calls Tryd.prog 7 #[.int .u64 hh, nodeV x0 x1 x2 x3 x4 x5] w fun e w' => e = .returned (.bool true) ∧ Below w.heap.size w w' := by
  have HT := Lib.hid hT
  have hB := (Sep.nil w).pushCells #[.int .u64 x0, .int .u64 x1, .int .u64 x2, .int .u64 x3, .int .u64 x4, .int .u64 x5] 58
  obtain ⟨bx, hbx⟩ : ∃ x, w.heap.size = x := ⟨_, rfl⟩
  obtain ⟨W1, hW1⟩ : ∃ x, w.alloc (.cells #[.int .u64 x0, .int .u64 x1, .int .u64 x2, .int .u64 x3, .int .u64 x4, .int .u64 x5] 58) = x := ⟨_, rfl⟩
  rw [hW1, hbx] at hB
  have hn := stnew_call hB 640 9 9 (by omega) (by omega) (by omega) (by omega) (by omega) (by omega)
  clear hT hB
  go_enter Tryd.func7, Tryd.ntmps7
  go_wp2_with fail
  refine hn.mono ?_
  rintro e w1 ⟨b, rfl, h1⟩
  have h1 : Sep No w w1 [cellsAt bx #[.int .u64 x0, .int .u64 x1, .int .u64 x2, .int .u64 x3, .int .u64 x4, .int .u64 x5] 58, stR b 9 9 (Slb.empty 640) ⟨9, 9, []⟩] := h1
  have I : StInv (Slb.empty 640) ⟨9, 9, []⟩ [] [] := StInv.start (by omega) (by omega) (by omega) (by omega) (by omega) (by omega)
  have hst : (⟨9, 9, []⟩ : HTbl).at' hh = (0, 7) := by
    rcases StInv.namedNew (m := 9) (la := 9) [] hh with ⟨j, r, hj, _⟩ | h
    · cases hj
    · exact h
  have HQ := Lib.hid (And.intro I (show Asks ⟨9, 9, []⟩ [] hh 7 from .stale hst))
  have c1 := znMake (noStore_nil w1) x0 x1 x2 x3 x4 x5
  obtain ⟨k0, k1, k2, k3, k4, k5⟩ := h1.six 0 rfl
  have H1 := Lib.hid h1
  clear hn hbx hW1 I hst h1
  go_wp2_with fail
  refine c1.mono ?_
  rintro e w2 ⟨rfl, hm⟩
  have h2 := H1.out.more hm
  have c2 := znGet (noStore_nil w2) hh
  have H2 := Lib.hid h2
  clear c1 hm H1 h2 k0 k1 k2 k3 k4 k5
  go_wp2_with fail
  refine c2.mono ?_
  rintro e w3 ⟨rfl, hm⟩
  have h3 : Sep No w (w3.alloc (.cells #[.int .u64 0, .int .u64 0, .int .u64 0, .int .u64 0, .int .u64 0, .int .u64 0] 58)) [cellsAt bx #[.int .u64 x0, .int .u64 x1, .int .u64 x2, .int .u64 x3, .int .u64 x4, .int .u64 x5] 58, stR b 9 9 (Slb.empty 640) ⟨9, 9, []⟩, cellsAt w3.heap.size #[.int .u64 0, .int .u64 0, .int .u64 0, .int .u64 0, .int .u64 0, .int .u64 0] 58] := (H2.out.more hm).pushCells _ _
  have c3 := nget_no h3 1 rfl HQ.out.1 h0 HQ.out.2 (by omega)
  have H3 := Lib.hid h3
  clear c2 hm H2 h3
  go_wp2_with fail
  obtain ⟨b9, hb9⟩ : ∃ x, w3.heap.size = x := ⟨_, rfl⟩
  rw [hb9] at H3 ⊢
  obtain ⟨W3, hW3⟩ : ∃ x, w3.alloc (.cells #[.int .u64 0, .int .u64 0, .int .u64 0, .int .u64 0, .int .u64 0, .int .u64 0] 58) = x := ⟨_, rfl⟩
  rw [hW3] at H3 c3 ⊢
  clear hb9 hW3
  refine c3.mono ?_
  rintro e w4 ⟨rfl, hm⟩
  have h4 : Sep No w (w4.alloc (.cells #[.int .u64 0, .int .u64 0, .int .u64 0, .int .u64 0, .int .u64 0, .int .u64 0] 58)) [cellsAt bx #[.int .u64 x0, .int .u64 x1, .int .u64 x2, .int .u64 x3, .int .u64 x4, .int .u64 x5] 58, stR b 9 9 (Slb.empty 640) ⟨9, 9, []⟩, cellsAt b9 #[.int .u64 0, .int .u64 0, .int .u64 0, .int .u64 0, .int .u64 0, .int .u64 0] 58, cellsAt w4.heap.size #[.int .u64 0, .int .u64 0, .int .u64 0, .int .u64 0, .int .u64 0, .int .u64 0] 58] := (H3.out.more hm).pushCells _ _
  obtain ⟨k0, k1, k2, k3, k4, k5⟩ := h4.six 0 rfl
  obtain ⟨p0, p1, p2, p3, p4, p5⟩ := h4.six 2 rfl
  have H4 := Lib.hid h4
  have c4 := znPut (noStore_nil (w4.alloc (.cells #[.int .u64 0, .int .u64 0, .int .u64 0, .int .u64 0, .int .u64 0, .int .u64 0] 58))) hh x0 x1 x2 x3 x4 x5
  clear c3 hm H3 h4
  go_wp2_with fail
  obtain ⟨b11, hb9⟩ : ∃ x, w4.heap.size = x := ⟨_, rfl⟩
  rw [hb9] at H4 ⊢
  obtain ⟨W4, hW3⟩ : ∃ x, w4.alloc (.cells #[.int .u64 0, .int .u64 0, .int .u64 0, .int .u64 0, .int .u64 0, .int .u64 0] 58) = x := ⟨_, rfl⟩
  rw [hW3] at H4 c4 ⊢
  clear hb9 hW3 k0 k1 k2 k3 k4 k5 p0 p1 p2 p3 p4 p5
  refine c4.mono ?_
  rintro e w5 ⟨rfl, hm⟩
  have h5 := H4.out.more hm
  have c5 := znDrop (noStore_nil w5) hh
  obtain ⟨k0, k1, k2, k3, k4, k5⟩ := h5.six 0 rfl
  obtain ⟨p0, p1, p2, p3, p4, p5⟩ := h5.six 2 rfl
  obtain ⟨q0, q1, q2, q3, q4, q5⟩ := h5.six 3 rfl
  have c6 := nput_no h5 1 rfl HQ.out.1 h0 HQ.out.2 (by omega) x0 x1 x2 x3 x4 x5
  have H5 := Lib.hid h5
  clear c4 hm H4 h5
  go_wp2_with fail
  refine c5.mono ?_
  rintro e w' ⟨rfl, rfl⟩
  clear c5
  go_wp2_with fail
  refine c6.mono ?_
  rintro e w6 ⟨rfl, hm⟩
  have h6 := H5.out.more hm
  have c7 := ndrop_no h6 1 rfl HQ.out.1 h0 HQ.out.2 (by omega)
  have HM := Lib.hid h6.mod
  clear c6 hm H5 h6 k0 k1 k2 k3 k4 k5 p0 p1 p2 p3 p4 p5 q0 q1 q2 q3 q4 q5
  go_wp2_with fail
  refine c7.mono ?_
  rintro e w' ⟨rfl, rfl⟩
  clear c7
  have ha := awake10_call w6 (HT.out.mod HM.out)
  go_wp2_with fail
  refine ha.mono ?_
  rintro e w9 ⟨rfl, hm9⟩
  have H9 := Lib.hid (HM.out.trans' hm9)
  clear ha hm9
  go_wp2
  go_ret
  exact ⟨rfl, H9.out.below _ (Nat.le_refl _) (fun _ _ x => x)⟩

theorem nodeNone_walk (a0 : Int) (a1 : List Int) (w : World) (w0 : (Lit.int .u64 a0).wf = true) (w1 : Kinds [some .u64, some .u64, some .u64, some .u64, some .u64, some .u64] a1) (hT : Tab64 w) :
    Calls Tryd.prog 7 #[.int .u64 a0, .agg (List.zipWith fv [some .u64, some .u64, some .u64, some .u64, some .u64, some .u64] a1).toArray] w fun e w' => e = .returned (.bool true) ∧ Below w.heap.size w w' := by
  obtain ⟨x0, x1, x2, x3, x4, x5, rfl, _⟩ := kinds_six w1
  exact none_in10 a0 x0 x1 x2 x3 x4 x5 w (by have := bounds_u64 w0; omega) hT
end Go.Proofs.YtfmcddomciicdaaDoor
