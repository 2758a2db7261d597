/- The plain law of package heap: Spare tells whether a class has an open slot. No program stands here. No condition. -/
import Derived.Test.YtfmkiioahnphbaaDoorHeapE
set_option linter.unusedVariables false
set_option linter.unusedSimpArgs false
set_option maxRecDepth 100000
namespace Go.Proofs.YtfmkiioahnphbaaDoor
open Go

theorem cnt_lt (N : Nat) : ∀ k, Bt.cnt N k < k ↔ ∃ i, i < k ∧ N.testBit i = false
  | 0 => by simp
  | k + 1 => by
    have ih := cnt_lt N k
    have hl := Bt.cnt_le N k
    have e : Bt.cnt N (k + 1) = Bt.cnt N k + (if N.testBit k then 1 else 0) := rfl
    rw [e]
    constructor
    · intro h
      by_cases hb : N.testBit k = true
      · rw [if_pos hb] at h
        obtain ⟨i, hi, hn⟩ := ih.1 (by omega)
        exact ⟨i, by omega, hn⟩
      · exact ⟨k, by omega, by simpa using hb⟩
    · rintro ⟨i, hi, hn⟩
      by_cases hik : i = k
      · subst hik
        rw [if_neg (by simp [hn])]
        omega
      · have := ih.2 ⟨i, by omega, hn⟩
        split <;> omega

theorem spareL_pos {c : Int} : ∀ {L : List Ent}, 0 < spareL c L ↔ ∃ x ∈ L, 0 < spareF c x
  | [] => by simp [spareL]
  | x :: L => by
    have h1 := (spareF_range c x).1
    have h2 := (spareL_range c L).1
    have ih := spareL_pos (c := c) (L := L)
    simp only [spareL]
    constructor
    · intro h
      by_cases hx : 0 < spareF c x
      · exact ⟨x, by simp, hx⟩
      · obtain ⟨y, hy, hp⟩ := ih.1 (by omega)
        exact ⟨y, by simp [hy], hp⟩
    · rintro ⟨y, hy, hp⟩
      rcases List.mem_cons.1 hy with rfl | hy
      · omega
      · have := ih.2 ⟨y, hy, hp⟩
        omega

namespace Slb
variable {S : Slb} {H : List Ent}
theorem Rep.spare_eq (R : Rep S H) {c : Nat} (hc : c < 8) : S.spare c = spareL c H := by
  unfold spare
  rw [cslots_in (by omega) (by omega), if_pos rfl, R.heads]
theorem Rep.spare_pos (R : Rep S H) {c : Nat} (hc : c < 8) : 0 < S.spare c ↔ ∃ a p N k, Open H c a p N k := by
  have hr := csz_range hc
  rw [R.spare_eq hc, spareL_pos]
  constructor
  · rintro ⟨⟨p, h⟩, hx, hp⟩
    unfold spareF at hp
    dsimp only at hp
    split at hp
    · rename_i hk
      obtain ⟨c', N, hc', hh, hN⟩ := R.head_small hx hk.1
      dsimp only at hh
      subst hh
      have e : c' = c := by have := hk.2; dsimp only at this; omega
      subst e
      have hcl : Bt.cl ((62 / csz c' : Nat) : Int) = 62 / csz c' := by unfold Bt.cl; omega
      rw [cslots_in (by omega) (by omega), Bt.count_eq] at hp
      simp only [Int.toNat_natCast] at hp
      rw [hcl] at hp
      obtain ⟨i, hi, hb⟩ := (cnt_lt N (62 / csz c')).1 (by omega)
      exact ⟨_, p, N, i, hx, hi, hb, rfl⟩
    · omega
  · rintro ⟨a, p, N, k, o⟩
    refine ⟨_, o.ent, ?_⟩
    unfold spareF
    dsimp only
    have hcl : Bt.cl ((62 / csz c : Nat) : Int) = 62 / csz c := by unfold Bt.cl; omega
    rw [if_pos ⟨rfl, rfl⟩, cslots_in (by omega) (by omega), Bt.count_eq]
    simp only [Int.toNat_natCast]
    rw [hcl]
    have := (cnt_lt N (62 / csz c)).2 ⟨k, o.lt, o.bit⟩
    omega
end Slb
end Go.Proofs.YtfmkiioahnphbaaDoor
