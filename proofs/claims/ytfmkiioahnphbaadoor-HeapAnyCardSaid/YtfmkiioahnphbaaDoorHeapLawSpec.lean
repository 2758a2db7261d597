/- Package heap: what the laws use of the plain law. No program stands here. No condition. -/
import Derived.Test.YtfmkiioahnphbaaDoorHeapE
set_option linter.unusedVariables false
set_option linter.unusedSimpArgs false
set_option maxRecDepth 100000
namespace Go.Proofs.YtfmkiioahnphbaaDoor
open Go Go.RowKit

namespace Slb
variable {S : Slb} {H : List Ent}

theorem Rep.find_no (R : Rep S H) {a : Int} (h : ∀ b ∈ blks H, (b.1 : Int) ≠ a) : S.find a = none := by
  cases hf : S.find a with
  | none => rfl
  | some r =>
    obtain ⟨p, k, x⟩ := r
    obtain ⟨a', r, e, B⟩ := R.find_some hf
    exact absurd e.symm (h _ B.mem)
theorem Rep.hbig (R : Rep S H) (a : Int) : ∀ p k x, S.find a = some (p, k, x) → x.kind = 2 → x.n ≤ 1000 := fun p k x hf h2 => by
  obtain ⟨a', r, e, B⟩ := R.find_some hf
  have g := (R.good _ B.ent).big h2
  dsimp only at g
  omega
theorem least_nil {m : Nat} (h : 1 ≤ m) : least [] m = 0 := least_eq h (freeB_iff.2 (by simp)) (fun g hg => by omega)
theorem pagesOf_range {n : Int} (h1 : 1 ≤ n) (h2 : n ≤ 4000) : 1 ≤ pagesOf n ∧ pagesOf n ≤ 63 := by
  unfold pagesOf
  split <;> omega

/-- The first block of an arena with room enough. -/
theorem first_block {q n : Int} (q0 : 0 ≤ q) (q1 : q ≤ 262144) (h1 : 1 ≤ n) (h2 : n ≤ 4000) (hq : (pagesOf n : Int) * 64 ≤ q) :
    ∃ S1 H1, (Slb.empty q).halloc n = (2, 0, S1) ∧ Rep S1 H1 ∧ blks H1 = [(2, roomOf n)] := by
  have hp := pagesOf_range h1 h2
  rcases (Rep.empty q0 q1).halloc h1 h2 with ⟨_, h, _⟩ | ⟨a, S', H', e, A, W⟩
  · have : (Slb.empty q).quota < (((Slb.empty q).pg.length : Nat) + (pagesOf n : Int)) * 64 := h
    have e1 : (Slb.empty q).quota = q := rfl
    have e2 : (Slb.empty q).pg.length = 0 := rfl
    omega
  · have ha : a = 2 := by
      cases W with
      | slot p N k h o => exact absurd o.ent (by simp)
      | page f h none ne e pg fr q ad => rw [ad, fr, show (Slb.empty _).pg = [] from rfl, least_nil (by omega)]
      | large f m h hm ne e pg fr q ad => rw [ad, fr, show (Slb.empty _).pg = [] from rfl, least_nil (by omega)]
    subst ha
    exact ⟨S', H', e, A.rep, List.perm_singleton.1 A.perm⟩

/-- The lowest block of all does not slide. -/
theorem Rep.slide_two (R : Rep S H) {r : Nat} (hb : (2, r) ∈ blks H) : S.hslide 2 = (2, 0, S) := by
  obtain ⟨to, S', H', e, L, W⟩ := R.hslide hb
  have e' : S.hslide 2 = (((to : Nat) : Int), 0, S') := e
  have hto : 2 ≤ to := by
    obtain ⟨l, _, hp⟩ := L.perm
    exact (L.rep.blk_range (b := (to, r)) (hp.mem_iff.2 (by simp))).1
  cases W with
  | stay p h ent r blk e es ea why => rw [e', es, ea]; rfl
  | small c q N m p N1 j hc o least ent hj hb ad old lt => exact absurd lt (by omega)
  | large p f h ent k hf lt ha ht => exact absurd lt (by omega)
end Slb

variable {F0 : Nat → Prop} {w0 w : World} {Ps : List Res}
theorem Sep.hSlideR (h : Sep F0 w0 w Ps) (i j : Nat) (hij : i ≠ j) {b s : Nat} {S : Slb} {H : List Ent} (hi : Ps[i]? = some (hpAt b s)) (hj : Ps[j]? = some (slabR s S)) (hT : Tab64 w) (R : Slb.Rep S H) (a : Int) (a0 : -9223372036854775808 ≤ a) (a1 : a ≤ 9223372036854775807) {x er : Int} {S' : Slb} (r : S.hslide a = (x, er, S')) :
    Calls Tryd.prog 17 #[.pointer (some ⟨b, 0, none⟩), .int .i64 a] w fun e w' => e = .returned (.tuple #[.int .i64 x, .int .i64 er]) ∧ Sep F0 w0 w' (Ps.set j (slabR s S')) := by
  have := h.hSlide i j hij hi hj hT a a0 a1 (R.hbig a)
  rw [r] at this
  exact this
end Go.Proofs.YtfmkiioahnphbaaDoor
