/- What the walk of CompactAmid is made of. Conditions: as said. -/
import Derived.Test.YtmdnofojecncgaaGreatDoorWords07
import Derived.Test.YtmdnofojecncgaaGreatDoorCompactC
set_option linter.unusedVariables false
set_option linter.unusedSimpArgs false
set_option maxRecDepth 100000
namespace Go.Proofs.YtmdnofojecncgaaGreatDoor
open Go Go.RowKit

theorem Recs.int_at {w : World} {sb : Option Addr} {len : Nat} {z : List (List Int)} (R : Recs w sb len [some .i64] z) {j : Nat} (h : j < len) : ∃ (y : Int) (g o : Nat), (-9223372036854775808 ≤ y ∧ y ≤ 9223372036854775807) ∧ sb = some ⟨g, o, none⟩ ∧ g < w.heap.size ∧ w.cell? ⟨g, o + j, none⟩ = some (.int .i64 y) := by
  have hzj : z[j]? = some (z[j]'(by rw [R.count]; exact h)) := List.getElem?_eq_getElem _
  obtain ⟨hrl, hro⟩ := R.ok _ (List.mem_of_getElem? hzj)
  obtain ⟨bb, off, e, hb, hc⟩ := R.cells (by omega)
  generalize z[j]'(by rw [R.count]; exact h) = r at *
  match r, hrl with
  | [y], _ =>
    have c0 := hc j _ hzj 0 _ y rfl rfl
    simp only [List.length_cons, List.length_nil, Nat.add_zero, Nat.zero_add, Nat.mul_one, fv] at c0
    exact ⟨y, bb, off, bounds_i64 (hro 0 _ y rfl rfl), e, hb, c0⟩

section
variable {S S' S2 S2' : Slb} {T T' T2 T2' : HTbl} {H H' H2 H2' : List Ent} {R R' R2 R2' : List Rc} {k : Nat}
theorem Twin.named (W : Twin k S T H R S2 T2 H2 R2) (n : Int) : Named T R (nthI (R.map (·.h)) n) ∧ Named T2 R2 (nthI (R.map (·.h)) n) ∧ 0 ≤ nthI (R.map (·.h)) n ∧ nthI (R.map (·.h)) n < 18446744073709551616 := by
  refine ⟨(⟨S, T, H, R, 0⟩ : FSt).named n, ?_, FSt.Inv.nth_rng (s := ⟨S, T, H, R, 0⟩) ⟨W.i1, Nat.zero_le _⟩ n⟩
  have := (⟨S2, T2, H2, R2, 0⟩ : FSt).named n
  unfold FSt.hs at this
  dsimp only [List.drop_zero] at this
  rw [W.mv.hs] at this
  exact this
end

abbrev AmPs (b cb C1 b2 cb2 C2 : Nat) (S : Slb) (T : HTbl) (S2 : Slb) (T2 : HTbl) (lv : Value) (n : Nat) (hs : List Int) : List Res :=
  [stR b 1000 4294967295 S T, cpR cb b, cellsAt C1 (rsV 262144 1000 4294967295) 35, stR b2 1000 4294967295 S2 T2, cpR cb2 b2, cellsAt C2 (rsV 262144 1000 4294967295) 35, hdRow lv n hs]
/-- What stands ahead of a round. -/
def AmRel (w : World) (b cb C1 b2 cb2 C2 k : Nat) (lv : Value) (wr : World) : Prop :=
  ∃ (S : Slb) (T : HTbl) (H : List Ent) (R : List Rc) (S2 : Slb) (T2 : HTbl) (H2 : List Ent) (R2 : List Rc), Twin k S T H R S2 T2 H2 R2 ∧ (∃ sl cl, lv = .slice sl R.length cl) ∧ Sep No w wr (AmPs b cb C1 b2 cb2 C2 S T S2 T2 lv R.length (R.map (·.h)))

theorem AmRel.ran {w wr : World} {b cb C1 b2 cb2 C2 k : Nat} {lv : Value} {S S' S2 : Slb} {T T' T2 : HTbl} {H H' H2 : List Ent} {R R' R2 : List Rc} {K n : Nat} {d : Bool} (W : Twin k S T H R S2 T2 H2 R2) (e : ∃ sl cl, lv = .slice sl R.length cl) (A : Ran S T H R K n d S' T' H' R')
    (h : Sep No w wr (AmPs b cb C1 b2 cb2 C2 S' T' S2 T2 lv R.length (R.map (·.h)))) : AmRel w b cb C1 b2 cb2 C2 k lv wr := by
  have hl8 : R'.length = R.length := A.steps.moved.1
  have hh8 : R'.map (·.h) = R.map (·.h) := A.steps.moved.hs
  refine ⟨S', T', H', R', S2, T2, H2, R2, W.ran A, by rw [hl8]; exact e, ?_⟩
  rw [hl8, hh8]
  exact h

/-- A slice of words. -/
def RowIs (w : World) (v : Value) (l : List Int) : Prop := ∃ sl cl, v = .slice sl l.length cl ∧ ∀ o x, l[o]? = some x → ∃ g, sl = some ⟨g, 0, none⟩ ∧ w.cell? ⟨g, o, none⟩ = some (.int .u64 x)
theorem RowIs.mod {w w' : World} {v : Value} {l : List Int} (h : RowIs w v l) (hm : Mod No w w') : RowIs w' v l := by
  obtain ⟨sl, cl, e, hc⟩ := h
  refine ⟨sl, cl, e, fun o x hx => ?_⟩
  obtain ⟨g, hg, hcell⟩ := hc o x hx
  exact ⟨g, hg, hm.cell hcell (fun x => x)⟩
theorem Sep.rowIs {F0 : Nat → Prop} {w0 w : World} {Ps : List Res} (h : Sep F0 w0 w Ps) (i : Nat) {sl : Option Addr} {cl : Nat} {l : List Int} (hi : Ps[i]? = some (wRow (.slice sl l.length cl) l.length l)) : RowIs w (.slice sl l.length cl) l := by
  refine ⟨sl, cl, rfl, fun o x hx => ?_⟩
  obtain ⟨g, hg, hc, _⟩ := h.item i hi (o := o) (x := .int .u64 x) (by rw [List.getElem?_map, hx]; rfl)
  exact ⟨g, hg, hc⟩
end Go.Proofs.YtmdnofojecncgaaGreatDoor
