/- NodeBack: what stands while nodes are made, put, brought elsewhere. No program stands here. No condition. -/
import Derived.Test.YtfmcddomciicdaaGreatDoorCompactA
import Derived.Test.YtfmcddomciicdaaGreatDoorNodeRoomWalk
import Derived.Test.YtfmcddomciicdaaGreatDoorApartSpec
set_option linter.unusedVariables false
set_option linter.unusedSimpArgs false
set_option maxRecDepth 100000
namespace Go.Proofs.YtfmcddomciicdaaGreatDoor
open Go Go.RowKit

/-- Nodes as a row of cells. -/
def nwv (ws : List (List Int)) : List Value := (List.range (6 * ws.length)).map fun p => Value.int .u64 ((ws.getD (p / 6) []).getD (p % 6) 0)
theorem nwv_len (ws : List (List Int)) : (nwv ws).length = 6 * ws.length := by simp [nwv]
theorem nwv_get {ws : List (List Int)} {p : Nat} (hp : p < 6 * ws.length) : (nwv ws)[p]? = some (.int .u64 ((ws.getD (p / 6) []).getD (p % 6) 0)) := by
  unfold nwv
  rw [List.getElem?_map, List.getElem?_range hp]
  rfl
theorem nwv_one (ws : List (List Int)) : ∀ u ∈ nwv ws, u.oneCell' = true := fun u hu => by
  obtain ⟨p, _, rfl⟩ := List.mem_map.1 hu
  rfl
theorem nwv_at {ws : List (List Int)} {k : Nat} {x0 x1 x2 x3 x4 x5 : Int} (hk : ws[k]? = some [x0, x1, x2, x3, x4, x5]) :
    (nwv ws)[k * 6]? = some (.int .u64 x0) ∧ (nwv ws)[k * 6 + 1]? = some (.int .u64 x1) ∧ (nwv ws)[k * 6 + 2]? = some (.int .u64 x2) ∧ (nwv ws)[k * 6 + 3]? = some (.int .u64 x3) ∧ (nwv ws)[k * 6 + 4]? = some (.int .u64 x4) ∧ (nwv ws)[k * 6 + 5]? = some (.int .u64 x5) := by
  have hl := (List.getElem?_eq_some_iff.1 hk).1
  have hg : ws.getD k [] = [x0, x1, x2, x3, x4, x5] := by rw [List.getD_eq_getElem?_getD, hk]; rfl
  refine ⟨?_, ?_, ?_, ?_, ?_, ?_⟩
  · rw [nwv_get (by omega), show (k * 6) / 6 = k by omega, show (k * 6) % 6 = 0 by omega, hg]; rfl
  · rw [nwv_get (by omega), show (k * 6 + 1) / 6 = k by omega, show (k * 6 + 1) % 6 = 1 by omega, hg]; rfl
  · rw [nwv_get (by omega), show (k * 6 + 2) / 6 = k by omega, show (k * 6 + 2) % 6 = 2 by omega, hg]; rfl
  · rw [nwv_get (by omega), show (k * 6 + 3) / 6 = k by omega, show (k * 6 + 3) % 6 = 3 by omega, hg]; rfl
  · rw [nwv_get (by omega), show (k * 6 + 4) / 6 = k by omega, show (k * 6 + 4) % 6 = 4 by omega, hg]; rfl
  · rw [nwv_get (by omega), show (k * 6 + 5) / 6 = k by omega, show (k * 6 + 5) % 6 = 5 by omega, hg]; rfl
theorem nwv_set {ws : List (List Int)} {k : Nat} (hk : k < ws.length) (x0 x1 x2 x3 x4 x5 : Int) :
    ((((((nwv ws).set (k * 6) (.int .u64 x0)).set (k * 6 + 1) (.int .u64 x1)).set (k * 6 + 2) (.int .u64 x2)).set (k * 6 + 3) (.int .u64 x3)).set (k * 6 + 4) (.int .u64 x4)).set (k * 6 + 5) (.int .u64 x5) = nwv (ws.set k [x0, x1, x2, x3, x4, x5]) := by
  have hl := nwv_len ws
  have hs : (ws.set k [x0, x1, x2, x3, x4, x5])[k]? = some [x0, x1, x2, x3, x4, x5] := by rw [List.getElem?_set, if_pos rfl, if_pos hk]
  obtain ⟨g0, g1, g2, g3, g4, g5⟩ := nwv_at hs
  apply List.ext_getElem?
  intro p
  simp only [List.getElem?_set, List.length_set, hl]
  by_cases hp : p / 6 = k
  · rcases (by omega : p = k * 6 ∨ p = k * 6 + 1 ∨ p = k * 6 + 2 ∨ p = k * 6 + 3 ∨ p = k * 6 + 4 ∨ p = k * 6 + 5) with rfl | rfl | rfl | rfl | rfl | rfl
    · rw [if_neg (by omega), if_neg (by omega), if_neg (by omega), if_neg (by omega), if_neg (by omega), if_pos rfl, if_pos (by omega), g0]
    · rw [if_neg (by omega), if_neg (by omega), if_neg (by omega), if_neg (by omega), if_pos rfl, if_pos (by omega), g1]
    · rw [if_neg (by omega), if_neg (by omega), if_neg (by omega), if_pos rfl, if_pos (by omega), g2]
    · rw [if_neg (by omega), if_neg (by omega), if_pos rfl, if_pos (by omega), g3]
    · rw [if_neg (by omega), if_pos rfl, if_pos (by omega), g4]
    · rw [if_pos rfl, if_pos (by omega), g5]
  · rw [if_neg (by omega), if_neg (by omega), if_neg (by omega), if_neg (by omega), if_neg (by omega), if_neg (by omega)]
    by_cases hq : p < 6 * ws.length
    · rw [nwv_get hq, nwv_get (by rw [List.length_set]; exact hq)]
      have : (ws.set k [x0, x1, x2, x3, x4, x5]).getD (p / 6) [] = ws.getD (p / 6) [] := by
        rw [List.getD_eq_getElem?_getD, List.getElem?_set, if_neg (fun e => hp e.symm), ← List.getD_eq_getElem?_getD]
      rw [this]
    · rw [List.getElem?_eq_none (by rw [hl]; omega), List.getElem?_eq_none (by rw [nwv_len, List.length_set]; omega)]

section
variable {S S' : Slb} {T T' : HTbl} {H H' : List Ent} {R R' : List Rc}
/-- Of small records of one length no step grants a page. -/
theorem Slides.pages6 {hh er : Int} {is : Bool} (I : StInv S T H R) (h6 : ∀ r ∈ R, r.w.length = 6) (D : Slides S T H R hh is er S' T' H' R') : S'.pg.length ≤ S.pg.length := by
  cases D with
  | stale => exact Nat.le_refl _
  | ok j r L tq S2 T2 H2 e le em D W I2 =>
    cases W with
    | stay p h ent r' blk eH eS ea why => rw [eS]; exact Nat.le_refl _
    | small c q N m p N1 jj hc o least ent hj hb ad old lt e' pg =>
      rw [pg]
      split
      · exact List.length_filter_le _ _
      · exact Nat.le_refl _
    | large p f h ent k hf lt ha hto e' pg =>
      have := (I.one_class (L := 6) (by omega) (fun r hr => h6 r (List.mem_filter.1 hr).1) _ ent).1
      dsimp only at this
      omega
theorem Moved.six (h6 : ∀ r ∈ R, r.w.length = 6) (M : Moved R R') : ∀ r ∈ R', r.w.length = 6 := fun r hr => by
  obtain ⟨j, hj⟩ := List.mem_iff_getElem?.1 hr
  obtain ⟨q, hq, _, hw, _⟩ := M.at_ hj
  rw [hw]
  exact h6 q (List.mem_of_getElem? hq)
theorem Stepped.pages6 {is : Bool} (I : StInv S T H R) (h6 : ∀ r ∈ R, r.w.length = 6) (D : Stepped S T H R is S' T' H' R') : S'.pg.length ≤ S.pg.length := by
  cases D with
  | done _ _ => exact Nat.le_refl _
  | gone pre post x e rest D => exact D.pages6 I h6
theorem Steps.pages6 {n : Nat} (h6 : ∀ r ∈ R, r.w.length = 6) (D : Steps S T H R n S' T' H' R') : S'.pg.length ≤ S.pg.length := by
  induction D with
  | zero I => exact Nat.le_refl _
  | snoc h D ih => exact Nat.le_trans (D.pages6 h.inv (h.moved.six h6)) ih
theorem Moved.ws (M : Moved R R') : R'.map (·.w) = R.map (·.w) := by
  apply List.ext_getElem?
  intro j
  rw [List.getElem?_map, List.getElem?_map]
  cases hj : R'[j]? with
  | none =>
    have := List.getElem?_eq_none_iff.1 hj
    rw [List.getElem?_eq_none (by rw [← M.1]; exact this)]
  | some r' =>
    obtain ⟨r, h1, _, h2, _⟩ := M.at_ hj
    rw [h1]
    show some r'.w = some r.w
    rw [h2]
theorem Moved.alive (h0 : ∀ r ∈ R, 0 ≤ r.a) (M : Moved R R') : ∀ r ∈ R', 0 ≤ r.a := fun r hr => by
  obtain ⟨j, hj⟩ := List.mem_iff_getElem?.1 hr
  obtain ⟨q, hq, _, _, ha⟩ := M.at_ hj
  exact ha.2 (h0 q (List.mem_of_getElem? hq))
/-- What stands of n nodes. -/
structure NB (S : Slb) (T : HTbl) (H : List Ent) (R : List Rc) (n : Nat) : Prop where
  inv : StInv S T H R
  len : R.length = n
  live : ∀ r ∈ R, 0 ≤ r.a
  six : ∀ r ∈ R, r.w.length = 6
  pg : 6 * S.pg.length ≤ n + 5
theorem NB.ran {n k m : Nat} {d : Bool} (N : NB S T H R n) (h : Ran S T H R k m d S' T' H' R') : NB S' T' H' R' n ∧ R'.map (·.w) = R.map (·.w) ∧ hds R' = hds R := by
  have hm := h.steps.moved
  refine ⟨⟨h.steps.inv, hm.1.trans N.len, hm.alive N.live, hm.six N.six, ?_⟩, hm.ws, ?_⟩
  · have := h.steps.pages6 N.six
    have := N.pg
    omega
  · unfold hds
    rw [hm.hs]
theorem NB.put {n j : Nat} {r : Rc} (N : NB S T H R n) (hj : R[j]? = some r) {ws : List Int} (hw : ws.length = 6) (O : NodeOut S T H R j r ws 6 S') : NB S' T H (R.set j { r with w := ws }) n ∧ (R.set j { r with w := ws }).map (·.w) = (R.map (·.w)).set j ws ∧ hds (R.set j { r with w := ws }) = hds R := by
  have h6 := N.six r (List.mem_of_getElem? hj)
  obtain ⟨I, hp, hq⟩ := O
  have e : putW r ws 6 = { r with w := ws } := by
    have := putW_all r (ws := ws) (by rw [hw, h6])
    rw [hw] at this
    exact this
  rw [e] at I
  refine ⟨⟨I, by rw [List.length_set]; exact N.len, fun q hq => ?_, fun q hq => ?_, by rw [hp]; exact N.pg⟩, by rw [List.map_set], hds_set (r' := { r with w := ws }) hj rfl⟩
  · rcases List.mem_or_eq_of_mem_set hq with h | rfl
    · exact N.live q h
    · exact N.live r (List.mem_of_getElem? hj)
  · rcases List.mem_or_eq_of_mem_set hq with h | rfl
    · exact N.six q h
    · exact hw
end
end Go.Proofs.YtfmcddomciicdaaGreatDoor
