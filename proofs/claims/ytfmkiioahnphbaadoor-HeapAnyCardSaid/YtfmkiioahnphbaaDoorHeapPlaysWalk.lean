/- HeapPlays, walked. Condition: the table of math/bits holds what its initialiser lays. -/
import Derived.Test.YtfmkiioahnphbaaDoorPlay04
import Derived.Test.YtfmkiioahnphbaaDoorSlabRef2
import Derived.Test.YtfmkiioahnphbaaDoorFlat
import Derived.Test.YtfmkiioahnphbaaDoorArgs
set_option linter.unusedVariables false
set_option linter.unusedSimpArgs false
set_option maxRecDepth 100000
namespace Go.Proofs.YtfmkiioahnphbaaDoor
open Go Go.RowKit

/-- What holds at the head of a round. -/
def PlRel (w0 : World) (q : Int) (hb s b : Nat) (wr : World) : Prop :=
  ∃ (S : Slb) (H : List Ent) (L : List RPg), S.quota = q ∧ Slb.Rep S H ∧ Like H L ∧ Sep No w0 wr [hpAt hb s, slabR s S, rheapR b S.quota L]
theorem rh_new {F0 : Nat → Prop} {w0 w : World} {hb s b : Nat} {q : Int} {S : Slb} (h : Sep F0 w0 w [slabR s S, hpAt hb s, cellsAt b #[.int .i64 q, .slice none 0 0] 46, pgRow (.slice none 0 0) []]) : Sep F0 w0 w [hpAt hb s, slabR s S, rheapR b q []] := by
  have h2 := (h.shutStar 2 3 (by decide) rfl rfl rfl).shutEx 2 (fun v => starR (cellsAt b #[.int .i64 q, v] 46) (pgRow v [])) _ rfl
  exact Sep.pick h2 (fun i => if i = 0 then 1 else if i = 1 then 0 else 2) (fun i hi => by match i, hi with | 0, _ => rfl | 1, _ => rfl | 2, _ => rfl) (fun i k hi hk hik => by match i, k, hi, hk with | 0, 1, _, _ => decide | 0, 2, _, _ => decide | 1, 0, _, _ => decide | 1, 2, _, _ => decide | 2, 0, _, _ => decide | 2, 1, _, _ => decide | 0, 0, _, _ => exact absurd rfl hik | 1, 1, _, _ => exact absurd rfl hik | 2, 2, _, _ => exact absurd rfl hik)
theorem rh_open2 {F0 : Nat → Prop} {w0 w : World} {hb s b : Nat} {q : Int} {S : Slb} {L : List RPg} (h : Sep F0 w0 w [hpAt hb s, slabR s S, rheapR b q L]) : ∃ sa cap, Sep F0 w0 w [hpAt hb s, slabR s S, cellsAt b #[.int .i64 q, .slice sa L.length cap] 46, pgRow (.slice sa L.length cap) L] := by
  obtain ⟨v, h⟩ := h.openEx 2 rfl
  have h : Sep F0 w0 w [hpAt hb s, slabR s S, cellsAt b #[.int .i64 q, v] 46, pgRow v L] := h.openStar 2 rfl
  obtain ⟨sa, cap, rfl⟩ := h.form 3 rfl
  exact ⟨sa, cap, h⟩
theorem rh_shut2 {F0 : Nat → Prop} {w0 w : World} {hb s b : Nat} {q : Int} {S : Slb} {L : List RPg} {v : Value} (h : Sep F0 w0 w [hpAt hb s, slabR s S, cellsAt b #[.int .i64 q, v] 46, pgRow v L]) : Sep F0 w0 w [hpAt hb s, slabR s S, rheapR b q L] :=
  (h.shutStar 2 3 (by decide) rfl rfl rfl).shutEx 2 (fun v => starR (cellsAt b #[.int .i64 q, v] 46) (pgRow v L)) _ rfl

theorem rsameL {w : World} {n : Nat} {sa sb : Option Addr} {ca cb : Nat} {xs ys : List Int} (hn : xs.length = n) (he : ys = xs) (h1 : w.ownsRow 0 3 1 (.slice sa n ca) xs.length (xs.map (Value.int .i64))) (h2 : w.ownsRow 0 3 1 (.slice sb n cb) ys.length (ys.map (Value.int .i64))) (hl : n ≤ 1000000) :
    Calls Tryd.prog 14 #[.slice sa n ca, .slice sb n cb] w fun e w' => e = .returned (.bool true) ∧ Mod No w w' := by
  subst hn
  subst he
  exact rsame_call h1 h2 hl

end Go.Proofs.YtfmkiioahnphbaaDoor
