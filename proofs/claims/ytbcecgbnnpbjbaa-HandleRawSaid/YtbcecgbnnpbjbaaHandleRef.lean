/- The reference of layer 5 (loftref05), walked: it computes what the plain table computes. Conditions: the table in memory is as said; handles are 64-bit words. -/
import Derived.Test.YtbcecgbnnpbjbaaHandleNew
import Derived.Test.YtbcecgbnnpbjbaaSep
import Derived.Test.YtbcecgbnnpbjbaaFlat
import Derived.StillTailTactics
namespace Go.Proofs.Ytbcecgbnnpbjbaa
open Go Go.RowKit

def rcell (s : HSlot) : List Value := [.bool (s.is == 1), .int .u32 s.gen, .int .i64 s.addr]
def rrow (l : List HSlot) : List Value := l.flatMap rcell
theorem rcell_len (s : HSlot) : (rcell s).length = 3 := rfl
theorem rrow_len (l : List HSlot) : (rrow l).length = l.length * 3 := flat_len rcell_len l
theorem rrow_get {l : List HSlot} {i : Nat} {s : HSlot} (h : l[i]? = some s) : (rrow l)[i * 3]? = some (.bool (s.is == 1)) ∧ (rrow l)[i * 3 + 1]? = some (.int .u32 s.gen) ∧ (rrow l)[i * 3 + 2]? = some (.int .i64 s.addr) :=
  ⟨by have := flat_get rcell_len l i 0 s h (by omega); rw [Nat.add_zero] at this; exact this, flat_get rcell_len l i 1 s h (by omega), flat_get rcell_len l i 2 s h (by omega)⟩
theorem rrow_one (l : List HSlot) : ∀ u ∈ rrow l, u.oneCell' = true := by
  intro u hu
  obtain ⟨s, _, hs⟩ := List.mem_flatMap.1 hu
  simp only [rcell, List.mem_cons, List.not_mem_nil, or_false] at hs
  rcases hs with rfl | rfl | rfl <;> rfl

theorem rname_call (k g : Int) (k0 : 0 ≤ k) (k1 : k ≤ 1000000) (g0 : 0 ≤ g) (g1 : g ≤ 4294967295) (w : World) :
    Calls Try.prog 33 #[.int .i64 k, .int .u32 g] w fun e w' => e = .returned (.int .u64 (g * 4294967296 + k)) ∧ w = w' := by
  go_enter Try.func33, Try.ntmps33
  go_wp2
  go_ret
  exact ⟨rfl, rfl⟩

namespace HTbl
/-- The place of a live handle, or -1. -/
def findAt (T : HTbl) (h : Int) : Int := if T.okB h then place h else -1
/-- Up to where no slot is the handle's. -/
def findTo (T : HTbl) (h : Int) : Nat := if T.okB h then (place h).toNat else T.l.length

theorem name_of_ok {T : HTbl} {h : Int} (hb : T.okB h = true) : ∃ s, T.l[(place h).toNat]? = some s ∧ s.is = 1 ∧ s.gen * 4294967296 + ((place h).toNat + 1 : Int) = h := by
  obtain ⟨p0, s, hs, i1, g1⟩ := okB_place hb
  refine ⟨s, hs, i1, ?_⟩
  rw [g1, Int.toNat_of_nonneg p0]
  unfold place
  omega

theorem find_before {T : HTbl} (hT : T.Ok) {h : Int} {j : Nat} {s : HSlot} (hj : j < T.findTo h) (hs : T.l[j]? = some s) (hi : s.is = 1) : s.gen * 4294967296 + (j + 1 : Int) ≠ h := by
  intro e
  have hl := hT.len
  have hm := hT.most2
  have hjl := (List.getElem?_eq_some_iff.1 hs).1
  have hp : place h = j := by unfold place; omega
  have hg : s.gen = h / 4294967296 := by omega
  have hb : T.okB h = true := okB_of (s := s) (by omega) (by rw [hp]; simpa using hs) hi hg
  unfold findTo at hj
  rw [if_pos hb, hp] at hj
  simp at hj
theorem findTo_le (T : HTbl) (h : Int) : T.findTo h ≤ T.l.length := by
  unfold findTo
  split
  · rename_i hb; exact Nat.le_of_lt (okB_lt hb)
  · exact Nat.le_refl _
end HTbl

theorem find_call {w : World} {v : Value} {T : HTbl} (hr : w.ownsRow 0 81 3 v T.l.length (rrow T.l)) (hT : T.Ok) (n : Int) (n0 : 0 ≤ n) (n1 : n < 18446744073709551616) :
    Calls Try.prog 34 #[.agg #[.int .i64 T.most, .int .u32 T.last, v], .int .u64 n] w fun e w' => e = .returned (.int .i64 (T.findAt n)) ∧ Mod No w w' := by
  have hlen : (T.l.length : Int) ≤ 65536 := by have := hT.len; have := hT.most2; omega
  obtain ⟨sa, cap, rfl⟩ : ∃ sa cap, v = .slice sa T.l.length cap := by
    obtain ⟨rfl, hz⟩ | ⟨g, cap, rfl⟩ := Joins.ownsRow_forms hr
    · exact ⟨none, 0, by rw [hz]⟩
    · exact ⟨_, _, rfl⟩
  have hle := HTbl.findTo_le T n
  have hm : Mod No w (w.alloc (.cells #[.int .i64 T.most, .int .u32 T.last, .slice sa T.l.length cap] 50)) := (Mod.refl _ _).alloc _
  have HS : Hid (∀ j s, T.l[j]? = some s → ∃ g, sa = some ⟨g, 0, none⟩ ∧ g < w.heap.size ∧ w.cell? ⟨g, j * 3, none⟩ = some (.bool (s.is == 1)) ∧ w.cell? ⟨g, j * 3 + 1, none⟩ = some (.int .u32 s.gen) ∧ 0 ≤ s.gen ∧ s.gen ≤ 4294967295) := by
    intro j s hs
    have hjl := (List.getElem?_eq_some_iff.1 hs).1
    obtain ⟨g, cap', hv⟩ := Joins.ownsRow_form hr (by omega)
    simp only [Value.slice.injEq] at hv
    obtain ⟨rfl, _, rfl⟩ := hv
    have hso := hT.slots j s hs
    have hla := hT.last2
    refine ⟨g, rfl, (hr.lt g rfl).2, ?_, ?_, by have := hso.2.1; omega, by have := hso.2.2.1; omega⟩
    · rw [hr.cellAt _ (by omega)]; exact (rrow_get hs).1
    · rw [hr.cellAt _ (by omega)]; exact (rrow_get hs).2.1
  have hcase : Hid (T.findAt n = -1 ∧ T.findTo n = T.l.length ∨ T.findAt n = (T.findTo n : Nat) ∧ ∃ s, T.l[T.findTo n]? = some s ∧ s.is = 1 ∧ s.gen * 4294967296 + (T.findTo n + 1 : Int) = n) := by
    cases hb : T.okB n with
    | false => exact .inl ⟨by unfold HTbl.findAt; rw [hb]; rfl, by unfold HTbl.findTo; rw [hb]; rfl⟩
    | true =>
      have e : T.findTo n = (HTbl.place n).toNat := by unfold HTbl.findTo; rw [hb]; rfl
      refine .inr ⟨?_, ?_⟩
      · rw [e, Int.toNat_of_nonneg (HTbl.okB_place hb).1]; unfold HTbl.findAt; rw [hb]; rfl
      · rw [e]; exact HTbl.name_of_ok hb
  have hbef : Hid (∀ j s, j < T.findTo n → T.l[j]? = some s → s.is = 1 → s.gen * 4294967296 + (j + 1 : Int) ≠ n) := fun j s hj hs hi => HTbl.find_before hT hj hs hi
  obtain ⟨p, hp⟩ : ∃ p, T.findTo n = p := ⟨_, rfl⟩
  rw [hp] at hcase hbef hle
  clear hr hT hp
  go_enter Try.func34, Try.ntmps34
  go_wp2_with fail
  go_loop [5] (fun k => ∃ j : Nat, j ≤ p ∧ k = .int .i64 j) (fun k => p + 1 - (intOf k).toNat)
  case atStart => exact ⟨0, Nat.zero_le _, rfl⟩
  case round =>
    obtain ⟨j, hj, rfl⟩ := hrel
    by_cases hlt : j < p
    · have hs := List.getElem?_eq_getElem (show j < T.l.length by omega)
      obtain ⟨g, rfl, hg, c0, c1, g0, g1⟩ := HS.out j _ hs
      have hne := hbef.out j _ hlt hs
      have hjl : j < T.l.length := by omega
      generalize T.l[j] = s at *
      by_cases hi : s.is = 1
      · have hb : (s.is == 1) = true := beqT hi
        have hn : (s.gen * 4294967296 + ((j : Int) + 1) == n) = false := beqF (hne hi)
        rw [hb] at c0
        clear hne hi hb hs
        go_wp2_with (go_at_call 33; refine (rname_call _ _ (by omega) (by omega) (by omega) (by omega) _).mono ?_; rintro e w' ⟨rfl, rfl⟩)
        go_round
        case rel => exact ⟨j + 1, by omega, by go_num⟩
        case measure => simp [intOf]; omega
      · have hb : (s.is == 1) = false := beqF hi
        rw [hb] at c0
        clear hne hi hb hs
        go_wp2_with (go_at_call 33; refine (rname_call _ _ (by omega) (by omega) (by omega) (by omega) _).mono ?_; rintro e w' ⟨rfl, rfl⟩)
        go_round
        case rel => exact ⟨j + 1, by omega, by go_num⟩
        case measure => simp [intOf]; omega
    · obtain rfl : j = p := by omega
      rcases hcase.out with ⟨h1, h2⟩ | ⟨h1, s, hs, hi, hn⟩
      · have H1 := Lib.hid h1
        clear h1
        subst h2
        go_wp2
        go_ret
        exact ⟨by rw [H1.out]; rfl, hm⟩
      · have H1 := Lib.hid h1
        obtain ⟨g, rfl, hg, c0, c1, g0, g1⟩ := HS.out j _ hs
        have hjl := (List.getElem?_eq_some_iff.1 hs).1
        have hb : (s.is == 1) = true := beqT hi
        have hn : (s.gen * 4294967296 + ((j : Int) + 1) == n) = true := beqT hn
        rw [hb] at c0
        clear h1 hi hb hs
        go_wp2_with (go_at_call 33; refine (rname_call _ _ (by omega) (by omega) (by omega) (by omega) _).mono ?_; rintro e w' ⟨rfl, rfl⟩)
        go_ret
        exact ⟨by rw [H1.out]; rfl, hm⟩
end Go.Proofs.Ytbcecgbnnpbjbaa
