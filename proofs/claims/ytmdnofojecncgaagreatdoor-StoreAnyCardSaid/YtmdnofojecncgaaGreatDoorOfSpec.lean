/- The plain law of package store: an arena that is made of pages, one by one, word by word. No program stands here. No condition. -/
import Derived.Test.YtmdnofojecncgaaGreatDoorStAny
import Derived.Test.YtmdnofojecncgaaGreatDoorHandleRawSpec
set_option linter.unusedVariables false
set_option linter.unusedSimpArgs false
set_option maxRecDepth 100000
namespace Go.Proofs.YtmdnofojecncgaaGreatDoor
open Go

namespace Slb
/-- An arena of some pages; one of these and a page whose first k words are there. -/
def sL (q : Int) (wd : Nat → Int) (L : List Nat) : Slb := ⟨q, L, fun a => if a / 64 ∈ L then wd a else 0⟩
def sW (q : Int) (wd : Nat → Int) (L : List Nat) (p k : Nat) : Slb := ⟨q, L ++ [p], fun a => if a / 64 ∈ L ∨ (a / 64 = p ∧ a % 64 < k) then wd a else 0⟩

theorem sL_nil (q : Int) (wd : Nat → Int) : sL q wd [] = Slb.empty q := by
  unfold sL Slb.empty
  congr 1
theorem more_last {L : List Nat} {p : Nat} (h : ∀ x ∈ L, x < p) : more L p 1 = L ++ [p] := by
  unfold more
  have h1 : L.filter (fun k => decide (k < p)) = L := List.filter_eq_self.2 fun k hk => by simpa using h k hk
  have h2 : L.filter (fun k => decide (p + 1 ≤ k)) = [] := List.filter_eq_nil_iff.2 fun k hk => by have := h k hk; simp; omega
  rw [h1, h2, List.append_nil]
  rfl
theorem sL_claim {q : Int} {wd : Nat → Int} {L : List Nat} {p : Nat} (h : ∀ x ∈ L, x < p) (hp : p < 1048576) (hq : ((L.length : Int) + 1) * 64 ≤ q) : (sL q wd L).claim (p : Int) = (0, sW q wd L p 0) := by
  have hno : (sL q wd L).has (p : Int) = false := by
    cases hh : (sL q wd L).has (p : Int) with
    | false => rfl
    | true =>
      have := has_nat.1 hh
      have := h p this
      omega
  unfold claim
  rw [if_neg (by omega), if_neg (by rw [hno]; decide), if_neg (by show ¬ q < ((L.length : Int) + 1) * 64; omega)]
  congr 1
  show (⟨q, more L (p : Int).toNat 1, _⟩ : Slb) = _
  rw [Int.toNat_natCast, more_last h]
  unfold sW sL
  congr 1
  funext a
  simp
theorem sW_write {q : Int} {wd : Nat → Int} {L : List Nat} {p k : Nat} (hp : p < 1048576) (hk : k < 64) : (sW q wd L p k).write ((p : Int) * 64 + (k : Int)) (wd (64 * p + k)) = (0, sW q wd L p (k + 1)) := by
  rw [show (p : Int) * 64 + (k : Int) = ((64 * p + k : Nat) : Int) by omega]
  have hd : (64 * p + k) / 64 = p := by omega
  have hm : (64 * p + k) % 64 = k := by omega
  rw [write_page (by rw [hd]; unfold sW; simp) (by rw [hd]; exact hp)]
  congr 1
  unfold sW
  congr 1
  funext a
  dsimp only
  by_cases e : a = 64 * p + k
  · subst e
    rw [if_pos rfl, if_pos (.inr ⟨hd, by omega⟩)]
  · rw [if_neg e]
    by_cases h : a / 64 ∈ L ∨ (a / 64 = p ∧ a % 64 < k)
    · rw [if_pos h, if_pos (h.imp (fun x => x) (fun x => ⟨x.1, by omega⟩))]
    · rw [if_neg h, if_neg]
      rintro (h1 | ⟨h1, h2⟩)
      · exact h (.inl h1)
      · exact h (.inr ⟨h1, by omega⟩)
theorem sW_all (q : Int) (wd : Nat → Int) (L : List Nat) (p : Nat) : sW q wd L p 64 = sL q wd (L ++ [p]) := by
  unfold sW sL
  congr 1
  funext a
  have h : (a / 64 ∈ L ∨ a / 64 = p ∧ a % 64 < 64) ↔ a / 64 ∈ L ++ [p] := by
    rw [List.mem_append, List.mem_singleton]
    constructor
    · rintro (h | h)
      · exact .inl h
      · exact .inr h.1
    · rintro (h | h)
      · exact .inl h
      · exact .inr ⟨h, Nat.mod_lt _ (by omega)⟩
  by_cases c : a / 64 ∈ L ++ [p]
  · rw [if_pos c, if_pos (h.2 c)]
  · rw [if_neg c, if_neg (fun x => c (h.1 x))]
theorem sL_all {S : Slb} (h : S.Ok) : sL S.quota S.wd S.pg = S := by
  unfold sL
  obtain ⟨q, pg, wd⟩ := S
  congr 1
  funext a
  dsimp only
  by_cases c : a / 64 ∈ pg
  · rw [if_pos c]
  · rw [if_neg c]; exact (h.zero a c).symm
theorem take_lt {pg : List Nat} (hs : pg.Pairwise (· < ·)) {i p : Nat} (hp : pg[i]? = some p) : ∀ x ∈ pg.take i, x < p := fun x hx => by
  obtain ⟨j, hj⟩ := List.mem_iff_getElem?.1 hx
  have hji : j < i := by
    have := (List.getElem?_eq_some_iff.1 hj).1
    rw [List.length_take] at this
    omega
  rw [List.getElem?_take_of_lt hji] at hj
  obtain ⟨h1, e1⟩ := List.getElem?_eq_some_iff.1 hj
  obtain ⟨h2, e2⟩ := List.getElem?_eq_some_iff.1 hp
  have := List.pairwise_iff_getElem.1 hs j i h1 h2 hji
  omega
end Slb

/-- Of's answer. -/
def ofErr (S : Slb) (m la : Int) (zs : List RSlot) : Int := if ∀ r ∈ zs, HTbl.rOk la r = true then stAudit S (HTbl.ofRaw m la zs) else 8
end Go.Proofs.YtmdnofojecncgaaGreatDoor
