/- What the laws of layer 1 ask of an arena's calls: facts on the plain arena. No condition. -/
import Derived.Test.YtnkdopaajpbjfaaSlabSpec
namespace Go.Proofs.Ytnkdopaajpbjfaa
namespace Slb

theorem claim_bad {S : Slb} {x : Int} (h : x < 0 ∨ 1048575 < x) : S.claim x = (2, S) := by unfold claim; rw [if_pos h]
theorem claim_has {S : Slb} {x : Int} (h0 : 0 ≤ x) (h1 : x ≤ 1048575) (h : S.has x = true) : S.claim x = (6, S) := by
  unfold claim; rw [if_neg (by omega), if_pos h]
theorem err_in {S : Slb} {a : Int} (h0 : 0 ≤ a) (h1 : a ≤ 67108863) (h : (a / 64).toNat ∈ S.pg) : S.err a = 0 := (err_iff h0 h1).2 (has_iff.2 ⟨by omega, h⟩)
theorem claim_new {S : Slb} (hS : S.Ok) {x : Int} (h0 : 0 ≤ x) (h1 : x ≤ 1048575) (h : S.has x = false) (hq : ((S.pg.length : Int) + 1) * 64 ≤ S.quota) :
    ∃ S1, S.claim x = (0, S1) ∧ S1.pg.length = S.pg.length + 1 ∧ S1.quota = S.quota ∧ S1.read (x * 64 + 63) = (0, 0) ∧ S1.err (x * 64) = 0 := by
  have hn : x.toNat ∉ S.pg := fun hin => by rw [has_iff.2 ⟨h0, hin⟩] at h; cases h
  have hf := free_one hn
  refine ⟨{ S with pg := more S.pg x.toNat 1 }, ?_, more_length hf, rfl, ?_, ?_⟩
  · unfold claim
    rw [if_neg (by omega), if_neg (by rw [h]; decide), if_neg (by omega)]
  · have e : ({ S with pg := more S.pg x.toNat 1 } : Slb).err (x * 64 + 63) = 0 := err_in (by omega) (by omega) ((mem_more hf).2 (.inr (by omega)))
    unfold read
    rw [if_pos e]
    show (S.wd (x * 64 + 63).toNat, (0 : Int)) = (0, 0)
    rw [hS.zero _ (by rw [show (x * 64 + 63).toNat / 64 = x.toNat by omega]; exact hn)]
  · exact err_in (by omega) (by omega) ((mem_more hf).2 (.inr (by omega)))

theorem grant_new {S : Slb} (hS : S.Ok) {n : Nat} (h1 : 1 ≤ n) (h2 : n ≤ 4096) (hq : ((S.pg.length : Int) + n) * 64 ≤ S.quota) (hb : n * S.pg.length + n ≤ 1048576) :
    ∃ S1, S.grant n = (((least S.pg n : Nat) : Int), 0, S1) ∧ S1.pg.length = S.pg.length + n ∧ S1.quota = S.quota ∧ ∀ a : Nat, least S.pg n * 64 ≤ a → a < (least S.pg n + n) * 64 → S1.err a = 0 ∧ S1.wd a = 0 := by
  obtain ⟨l1, l2, _⟩ := least_spec S.pg n h1
  refine ⟨{ S with pg := more S.pg (least S.pg n) n }, ?_, more_length l2, rfl, fun a ha hb2 => ?_⟩
  · unfold grant
    rw [if_neg (by omega), if_neg (by omega), Int.toNat_natCast]
  · refine ⟨err_in (by omega) (by omega) ?_, ?_⟩
    · exact (mem_more l2).2 (.inr (by omega))
    · refine hS.zero a fun hin => ?_
      rcases freeB_iff.1 l2 _ hin with h | h <;> omega

/-- A page's number is small, where the quota is. -/
theorem write_in {S : Slb} {a v : Int} (h : S.err a = 0) : S.write a v = (0, { S with wd := fun x => if x = a.toNat then v else S.wd x }) := by unfold write; rw [if_pos h]
theorem read_in {S : Slb} {a : Int} (h : S.err a = 0) : S.read a = (S.wd a.toNat, 0) := by unfold read; rw [if_pos h]
theorem err_pg {S S' : Slb} (h : S'.pg = S.pg) (a : Int) : S'.err a = S.err a := by unfold err has; rw [h]
theorem release_quota (S : Slb) (f n : Int) : (S.release f n).2.quota = S.quota := by
  unfold release
  split
  · rfl
  split <;> rfl
theorem claim_quota (S : Slb) (n : Int) : (S.claim n).2.quota = S.quota := by
  unfold claim
  split
  · rfl
  split
  · rfl
  split <;> rfl
theorem grant_quota (S : Slb) (n : Int) : (S.grant n).2.2.quota = S.quota := by
  unfold grant
  split
  · rfl
  split <;> rfl
theorem write_quota (S : Slb) (a v : Int) : (S.write a v).2.quota = S.quota := by unfold write; split <;> rfl
theorem move_quota (S : Slb) (t f n : Int) : (S.move t f n).2.quota = S.quota := by
  unfold move
  split
  · rfl
  split <;> rfl
theorem grant_bad {S : Slb} {n : Int} (h : n < 1 ∨ 4096 < n) : S.grant n = (0, 2, S) := by unfold grant; rw [if_pos h]
theorem grant_quo {S : Slb} {n : Int} (h : 1 ≤ n) (h' : n ≤ 4096) (hq : S.quota < (S.pg.length + n) * 64) : S.grant n = (0, 3, S) := by unfold grant; rw [if_neg (by omega), if_pos hq]
end Slb
end Go.Proofs.Ytnkdopaajpbjfaa
