/- nth of package loftlaw04, walked. Condition: at most a million numbers. -/
import Derived.Test.YtfmkiioahnphbaaDoorHeapE
set_option linter.unusedVariables false
set_option linter.unusedSimpArgs false
set_option maxRecDepth 100000
namespace Go.Proofs.YtfmkiioahnphbaaDoor
open Go Go.RowKit

/-- The n-th of some, counted round; -1: there are none. -/
def nthA (L : List Int) (n : Int) : Int := if L.length = 0 then -1 else L.getD ((if n.tmod L.length < 0 then n.tmod L.length + L.length else n.tmod L.length).toNat) 0
theorem nthA_mem (L : List Int) (n : Int) : nthA L n = -1 ∨ nthA L n ∈ L := by
  unfold nthA
  by_cases h : L.length = 0
  · exact .inl (if_pos h)
  · rw [if_neg h]
    refine .inr ?_
    have h1 := Int.tmod_lt_of_pos n (show (0 : Int) < (L.length : Int) by omega)
    have h2 := Int.tmod_lt_of_pos (-n) (show (0 : Int) < (L.length : Int) by omega)
    rw [Int.neg_tmod] at h2
    have hk : (if n.tmod L.length < 0 then n.tmod L.length + L.length else n.tmod L.length).toNat < L.length := by split <;> omega
    rw [List.getD_eq_getElem?_getD, List.getElem?_eq_getElem hk, Option.getD_some]
    exact List.getElem_mem hk

variable {F0 : Nat → Prop} {w0 w : World} {Ps : List Res}
theorem nth04_call (h : Sep F0 w0 w Ps) (i : Nat) {sa : Option Addr} {L cap : Nat} {ls : List Int} (hi : Ps[i]? = some (rowAt 3 1 (.slice sa L cap) L (ls.map (Value.int .i64)))) (hl : ls.length = L) (hb : L ≤ 1000000) (n : Int) (hn : -9223372036854775808 ≤ n ∧ n ≤ 9223372036854775807) :
    Calls Tryd.prog 29 #[.slice sa L cap, .int .i64 n] w fun e w' => e = .returned (.int .i64 (nthA ls n)) ∧ w = w' := by
  rcases Nat.eq_zero_or_pos L with h0 | h0
  · have e : nthA ls n = -1 := by unfold nthA; rw [if_pos (by omega)]
    rw [e]
    subst h0
    clear h hi hl e
    go_enter Tryd.func29, Tryd.ntmps29
    go_wp2
    go_ret
    exact ⟨rfl, rfl⟩
  · have hm : -(L : Int) < n.tmod (L : Int) ∧ n.tmod (L : Int) < (L : Int) := by
      have h1 := Int.tmod_lt_of_pos n (show (0 : Int) < (L : Int) by omega)
      have h2 := Int.tmod_lt_of_pos (-n) (show (0 : Int) < (L : Int) by omega)
      rw [Int.neg_tmod] at h2
      omega
    have hz : ((L : Int) == 0) = false := beqF (by omega)
    have hN : nthA ls n = ls.getD ((if n.tmod L < 0 then n.tmod L + L else n.tmod L).toNat) 0 := by unfold nthA; rw [hl, if_neg (by omega)]
    obtain ⟨m, hme⟩ : ∃ m, n.tmod (L : Int) = m := ⟨_, rfl⟩
    have hms : n.tmod (L : Int) = m := hme
    rw [hme] at hm hN
    rcases Int.lt_or_le m 0 with hneg | hpos
    · obtain ⟨k, hk⟩ := Int.eq_ofNat_of_zero_le (show 0 ≤ m + L by omega)
      have hkl : k < ls.length := by omega
      rw [if_pos hneg, hk, Int.toNat_natCast, List.getD_eq_getElem?_getD, List.getElem?_eq_getElem hkl, Option.getD_some] at hN
      rw [hN]
      obtain ⟨g, rfl, c, _⟩ := h.item i hi (o := k) (x := .int .i64 ls[k]) (by rw [List.getElem?_map, List.getElem?_eq_getElem hkl]; rfl)
      generalize ls[k] = x at *
      have hkL : (k : Int) < (L : Int) := by omega
      clear h hi hl hme hkl hN
      go_enter Tryd.func29, Tryd.ntmps29
      go_wp2
      go_ret
      exact ⟨rfl, rfl⟩
    · obtain ⟨k, hk⟩ := Int.eq_ofNat_of_zero_le hpos
      subst hk
      have hkl : k < ls.length := by omega
      rw [if_neg (by omega), Int.toNat_natCast, List.getD_eq_getElem?_getD, List.getElem?_eq_getElem hkl, Option.getD_some] at hN
      rw [hN]
      obtain ⟨g, rfl, c, _⟩ := h.item i hi (o := k) (x := .int .i64 ls[k]) (by rw [List.getElem?_map, List.getElem?_eq_getElem hkl]; rfl)
      generalize ls[k] = x at *
      have hkL : (k : Int) < (L : Int) := by omega
      clear h hi hl hme hkl hN
      go_enter Tryd.func29, Tryd.ntmps29
      go_wp2
      go_ret
      exact ⟨rfl, rfl⟩

/-- What live tells: where the blocks lie, rising. -/
theorem Slb.Rep.live_len {S : Slb} {H : List Ent} (R : Rep S H) : S.live.length = (blks H).length ∧ S.live.length ≤ 126976 := by
  refine ⟨by rw [R.live, List.length_map], ?_⟩
  have h1 := liveL_len S.heads
  have h2 := heads_len R.ok
  have : S.live = S.heads.flatMap liveE := rfl
  rw [this]
  omega
theorem Slb.Rep.live_rng {S : Slb} {H : List Ent} (R : Rep S H) {x : Int} (h : x ∈ S.live) : 2 ≤ x ∧ x ≤ 67108864 := by
  rw [R.live] at h
  obtain ⟨b, hb, rfl⟩ := List.mem_map.1 h
  have := R.blk_range hb
  omega
theorem Slb.Rep.live_srt {S : Slb} {H : List Ent} (R : Rep S H) : S.live.Pairwise (· < ·) := by
  rw [R.live, List.pairwise_map]
  refine R.pair.imp_of_mem ?_
  intro a b ha hb h
  have := R.blk_range ha
  omega
theorem Slb.Rep.nth_rng {S : Slb} {H : List Ent} (R : Rep S H) (n : Int) : -1 ≤ nthA S.live n ∧ nthA S.live n ≤ 67108864 := by
  rcases nthA_mem S.live n with h | h
  · omega
  · have := R.live_rng h; omega
end Go.Proofs.YtfmkiioahnphbaaDoor
