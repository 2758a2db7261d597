/- The reference of layer 1 (loftref01): At, Read, Free, walked: it computes what the plain arena computes. Conditions: the arena in memory is as said. -/
import Derived.Test.YtnkdopaajpbjfaaSlabLawSpec
import Derived.Test.YtnkdopaajpbjfaaSlabPages
import Derived.Test.YtnkdopaajpbjfaaFlat
import Derived.StillTailTactics
namespace Go.Proofs.Ytnkdopaajpbjfaa
open Go Go.RowKit

/-- A page of the reference's: its number, its words. -/
def pcell (wd : Nat → Int) (k : Nat) : List Value := .int .i64 k :: (List.range 64).map fun j => .int .u64 (wd (64 * k + j))
def prow (wd : Nat → Int) (pg : List Nat) : List Value := pg.flatMap (pcell wd)
theorem pcell_len (wd : Nat → Int) (k : Nat) : (pcell wd k).length = 65 := by simp [pcell]
theorem prow_len (wd : Nat → Int) (pg : List Nat) : (prow wd pg).length = pg.length * 65 := flat_len (pcell_len wd) pg
theorem prow_num {wd : Nat → Int} {pg : List Nat} {i k : Nat} (h : pg[i]? = some k) : (prow wd pg)[i * 65]? = some (.int .i64 k) := by
  have := flat_get (pcell_len wd) pg i 0 k h (by omega)
  rw [Nat.add_zero] at this
  exact this
theorem prow_word {wd : Nat → Int} {pg : List Nat} {i k j : Nat} (h : pg[i]? = some k) (hj : j < 64) : (prow wd pg)[i * 65 + 1 + j]? = some (.int .u64 (wd (64 * k + j))) := by
  have := flat_get (pcell_len wd) pg i (1 + j) k h (by omega)
  rw [← Nat.add_assoc] at this
  rw [prow, this, pcell, Nat.add_comm 1 j, List.getElem?_cons_succ]
  simp [hj]
theorem prow_one (wd : Nat → Int) (pg : List Nat) : ∀ u ∈ prow wd pg, u.oneCell' = true := by
  intro u hu
  obtain ⟨s, _, hs⟩ := List.mem_flatMap.1 hu
  rcases List.mem_cons.1 hs with rfl | hs
  · rfl
  · obtain ⟨j, _, rfl⟩ := List.mem_map.1 hs
    rfl

namespace Slb
/-- The place of a page; behind the last if it is not there. -/
def place (S : Slb) (n : Int) : Nat := S.pg.findIdx fun k : Nat => decide ((k : Int) = n)
def placeAt (S : Slb) (n : Int) : Int := if S.has n then (S.place n : Nat) else -1
theorem place_le (S : Slb) (n : Int) : S.place n ≤ S.pg.length := List.findIdx_le_length
theorem place_lt {S : Slb} {n : Int} : S.place n < S.pg.length ↔ S.has n = true := by
  unfold place
  rw [List.findIdx_lt_length, has_iff]
  constructor
  · rintro ⟨k, hk, h⟩
    have : (k : Int) = n := by simpa using h
    exact ⟨by omega, by rw [← this]; simpa using hk⟩
  · rintro ⟨h0, h⟩
    exact ⟨n.toNat, h, by simp; omega⟩
theorem place_get {S : Slb} {n : Int} (h : S.has n = true) : S.pg[S.place n]? = some n.toNat := by
  have hl := place_lt.2 h
  rw [List.getElem?_eq_getElem hl]
  have := List.findIdx_getElem (p := fun k : Nat => decide ((k : Int) = n)) (xs := S.pg) (w := hl)
  have : ((S.pg[S.place n] : Nat) : Int) = n := of_decide_eq_true this
  congr 1
  omega
theorem place_bef {S : Slb} {n : Int} {j k : Nat} (hj : j < S.place n) (hk : S.pg[j]? = some k) : (k : Int) ≠ n := by
  unfold place at hj
  have := List.not_of_lt_findIdx hj
  obtain ⟨hl, rfl⟩ := List.getElem?_eq_some_iff.1 hk
  simpa using this
theorem len_le {S : Slb} (h : S.Ok) : S.pg.length ≤ 4096 := by have := h.fit; have := h.q1; omega
end Slb

variable {w : World} {v : Value} {S : Slb}

theorem row_form {e size n : Nat} {xs : List Value} (hr : w.ownsRow 0 e size v n xs) : ∃ sa cap, v = .slice sa n cap := by
  obtain ⟨rfl, hz⟩ | ⟨g, cap, rfl⟩ := Joins.ownsRow_forms hr
  · exact ⟨none, 0, by rw [hz]⟩
  · exact ⟨_, _, rfl⟩

/-- A page's cells. -/
theorem ppage {sa : Option Addr} {cap : Nat} (hr : w.ownsRow 0 59 65 (.slice sa S.pg.length cap) S.pg.length (prow S.wd S.pg)) {i k : Nat} (hk : S.pg[i]? = some k) :
    ∃ g, sa = some ⟨g, 0, none⟩ ∧ i < S.pg.length ∧ g < w.heap.size ∧ w.cell? ⟨g, i * 65, none⟩ = some (.int .i64 k) ∧ (∀ j, j < 64 → w.cell? ⟨g, i * 65 + 1 + j, none⟩ = some (.int .u64 (S.wd (64 * k + j)))) ∧ ∀ o, w.frozen? ⟨g, o, none⟩ = false := by
  have hi := (List.getElem?_eq_some_iff.1 hk).1
  obtain ⟨g, cap', hv⟩ := Joins.ownsRow_form hr (by omega)
  simp only [Value.slice.injEq] at hv
  obtain ⟨rfl, _, rfl⟩ := hv
  refine ⟨g, rfl, hi, (hr.lt g rfl).2, ?_, fun j hj => ?_, fun o => hr.frozenAt o⟩
  · rw [hr.cellAt _ (by omega)]; exact prow_num hk
  · rw [hr.cellAt _ (by omega)]; exact prow_word hk hj

theorem rat_call (hr : w.ownsRow 0 59 65 v S.pg.length (prow S.wd S.pg)) (hS : S.Ok) (n : Int) :
    Calls Try.prog 24 #[.agg #[.int .i64 S.quota, v], .int .i64 n] w fun e w' => e = .returned (.int .i64 (S.placeAt n)) ∧ Mod No w w' := by
  have hlen : (S.pg.length : Int) ≤ 4096 := by have := Slb.len_le hS; omega
  obtain ⟨sa, cap, rfl⟩ := row_form hr
  have hle := Slb.place_le S n
  have hm : Mod No w (w.alloc (.cells #[.int .i64 S.quota, .slice sa S.pg.length cap] 48)) := (Mod.refl _ _).alloc _
  have HS : Hid (∀ (j k : Nat), S.pg[j]? = some k → ∃ g, sa = some ⟨g, 0, none⟩ ∧ g < w.heap.size ∧ w.cell? ⟨g, j * 65, none⟩ = some (.int .i64 k)) := by
    intro j k hk
    obtain ⟨g, h1, _, h2, h3, _⟩ := ppage hr hk
    exact ⟨g, h1, h2, h3⟩
  have hcase : Hid (S.placeAt n = -1 ∧ S.place n = S.pg.length ∨ S.placeAt n = (S.place n : Nat) ∧ S.place n < S.pg.length ∧ ∃ k : Nat, S.pg[S.place n]? = some k ∧ (k : Int) = n) := by
    cases hb : S.has n with
    | false =>
      refine .inl ⟨by unfold Slb.placeAt; rw [hb]; rfl, ?_⟩
      have : ¬ S.place n < S.pg.length := fun h => by rw [Slb.place_lt.1 h] at hb; cases hb
      have := Slb.place_le S n
      show S.place n = S.pg.length
      omega
    | true => exact .inr ⟨by unfold Slb.placeAt; rw [hb]; rfl, Slb.place_lt.2 hb, _, Slb.place_get hb, by have := (Slb.has_iff.1 hb).1; omega⟩
  have hbef : Hid (∀ (j k : Nat), j < S.place n → S.pg[j]? = some k → (k : Int) ≠ n) := fun j k hj hk => Slb.place_bef hj hk
  obtain ⟨p, hp⟩ : ∃ p, S.place n = p := ⟨_, rfl⟩
  rw [hp] at hcase hbef hle
  clear hr hS hp
  go_enter Try.func24, Try.ntmps24
  go_wp2_with fail
  go_loop [5] (fun k => ∃ j : Nat, j ≤ p ∧ k = .int .i64 j) (fun k => p + 1 - (RowKit.intOf k).toNat)
  case atStart => exact ⟨0, Nat.zero_le _, rfl⟩
  case round =>
    obtain ⟨j, hj, rfl⟩ := hrel
    by_cases hlt : j < p
    · have hs := List.getElem?_eq_getElem (show j < S.pg.length by omega)
      obtain ⟨g, rfl, hg, c0⟩ := HS.out j _ hs
      have hne := hbef.out j _ hlt hs
      have hjl : j < S.pg.length := by omega
      generalize S.pg[j] = k at *
      have hn : ((k : Int) == n) = false := beqF hne
      clear hne hs
      go_wp2
      go_round
      case rel => exact ⟨j + 1, by omega, by go_num⟩
      case measure => simp [RowKit.intOf]; omega
    · obtain rfl : j = p := by omega
      rcases hcase.out with ⟨h1, h2⟩ | ⟨h1, hjl, k, hs, hn⟩
      · have H1 := Lib.hid h1
        clear h1
        subst h2
        go_wp2
        go_ret
        exact ⟨by rw [H1.out]; rfl, hm⟩
      · have H1 := Lib.hid h1
        obtain ⟨g, rfl, hg, c0⟩ := HS.out j _ hs
        have hn : ((k : Int) == n) = true := beqT hn
        clear h1 hs
        go_wp2
        go_ret
        exact ⟨by rw [H1.out]; rfl, hm⟩

theorem placeAt_no {n : Int} (h : S.has n = false) : S.placeAt n = -1 := by unfold Slb.placeAt; rw [h]; rfl
theorem placeAt_yes {n : Int} (h : S.has n = true) : S.placeAt n = (S.place n : Nat) := by unfold Slb.placeAt; rw [h]; rfl

theorem rread_call (hr : w.ownsRow 0 59 65 v S.pg.length (prow S.wd S.pg)) (hS : S.Ok) (a : Int) :
    Calls Try.prog 32 #[.agg #[.int .i64 S.quota, v], .int .i64 a] w fun e w' => e = .returned (.tuple #[.int .u64 (S.read a).1, .int .i64 (S.read a).2]) ∧ Mod No w w' := by
  obtain ⟨sa, cap, rfl⟩ := row_form hr
  have hm0 : Mod No w (w.alloc (.cells #[.int .i64 S.quota, .slice sa S.pg.length cap] 48)) := (Mod.refl _ _).alloc _
  by_cases h0 : a < 0
  · have e1 : S.read a = (0, 2) := by unfold Slb.read; rw [show S.err a = 2 from by unfold Slb.err; rw [if_pos (.inl h0)]]; rfl
    rw [e1]
    have d1 : decide (a < 0) = true := ltT h0
    clear hr e1 hS
    go_enter Try.func32, Try.ntmps32
    go_wp2
    go_ret2
    exact ⟨rfl, hm0⟩
  have d1 : decide (a < 0) = false := ltF (by omega)
  by_cases h1 : 67108864 ≤ a
  · have e1 : S.read a = (0, 2) := by unfold Slb.read; rw [show S.err a = 2 from by unfold Slb.err; rw [if_pos (.inr (by omega))]]; rfl
    rw [e1]
    have d2 : decide (67108864 ≤ a) = true := leT h1
    clear hr e1 hS
    go_enter Try.func32, Try.ntmps32
    go_wp2
    go_ret2
    exact ⟨rfl, hm0⟩
  have d2 : decide (67108864 ≤ a) = false := leF (by omega)
  have hc := rat_call (hr.alloc (.cells #[.int .i64 S.quota, .slice sa S.pg.length cap] 48)) hS (a / 64)
  cases hh : S.has (a / 64) with
  | false =>
    have e1 : S.read a = (0, 5) := by unfold Slb.read; rw [show S.err a = 5 from by unfold Slb.err; rw [if_neg (by omega), hh]; rfl]; rfl
    rw [placeAt_no hh] at hc
    rw [e1]
    clear hr e1 hS hh
    go_enter Try.func32, Try.ntmps32
    go_wp2_with fail
    refine hc.mono ?_
    rintro e w1 ⟨rfl, hm⟩
    clear hc
    go_wp2
    go_ret2
    exact ⟨rfl, hm0.trans' hm⟩
  | true =>
    have e1 : S.read a = (S.wd a.toNat, 0) := by unfold Slb.read; rw [show S.err a = 0 from by unfold Slb.err; rw [if_neg (by omega), hh]; rfl]; rfl
    rw [placeAt_yes hh] at hc
    obtain ⟨g, rfl, hp, hg, _, cw, _⟩ := ppage hr (Slb.place_get hh)
    have cw := cw (a % 64).toNat (by omega)
    rw [show 64 * (a / 64).toNat + (a % 64).toNat = a.toNat by omega] at cw
    rw [e1]
    generalize S.place (a / 64) = p at *
    have hlen : (S.pg.length : Int) ≤ 4096 := by have := Slb.len_le hS; omega
    obtain ⟨j, hj⟩ : ∃ j : Nat, (a % 64).toNat = j := ⟨_, rfl⟩
    rw [hj] at cw
    have hj2 : a % 64 = (j : Int) := by omega
    have hj3 : j < 64 := by omega
    have C := Lib.hid (And.intro (hm0.cell cw (fun x => x)) (cell_at (heap_alloc_new w (.cells #[.int .i64 S.quota, .slice (some ⟨g, 0, none⟩) S.pg.length cap] 48)) 1))
    generalize S.wd a.toNat = x at *
    clear hr e1 hS hh cw hj
    go_enter Try.func32, Try.ntmps32
    go_wp2_with fail
    refine hc.mono ?_
    rintro e w1 ⟨rfl, hm⟩
    have c2 := hm.cell C.out.1 (fun x => x)
    have c3 := hm.cell C.out.2 (fun x => x)
    clear hc C
    go_wp2
    go_ret2
    exact ⟨rfl, hm0.trans' hm⟩
end Go.Proofs.Ytnkdopaajpbjfaa
