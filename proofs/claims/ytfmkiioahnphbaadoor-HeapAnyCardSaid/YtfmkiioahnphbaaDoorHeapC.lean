/- What the laws of layer 1 ask of an arena's calls: facts on the plain arena. No condition. | Package heap, walked: Room, Free. Conditions: the heap's arena is as said; addresses are 64-bit. | Package heap, walked: Alloc. Conditions: the heap's arena is as said; the table of math/bits holds what its initialiser lays. | Package heap, walked: lower. Conditions: the heap's arena is as said. | Package heap, walked: slideLarge. Conditions: the heap's arena is as said; the head has few pages. | Package heap, walked: Slide, where there is no block, or a large one. Conditions: the heap's arena is as said. | Package heap, walked: Slide, where there is a small block; and Slide. Conditions: the heap's arena is as said; the table of math/bits holds what its initialiser lays; a large block's head has few pages. -/
import Derived.Test.YtfmkiioahnphbaaDoorGround
import Derived.Test.YtfmkiioahnphbaaDoorHeapB
set_option linter.unusedVariables false
set_option linter.unusedSimpArgs false
set_option maxRecDepth 100000
namespace Go.Proofs.YtfmkiioahnphbaaDoor
namespace Slb

theorem claim_bad {S : Slb} {x : Int} (h : x < 0 ∨ 1048575 < x) : S.claim x = (2, S) := by unfold claim; rw [if_pos h]
theorem claim_has {S : Slb} {x : Int} (h0 : 0 ≤ x) (h1 : x ≤ 1048575) (h : S.has x = true) : S.claim x = (6, S) := by
  unfold claim; rw [if_neg (by omega), if_pos h]
theorem err_in {S : Slb} {a : Int} (h0 : 0 ≤ a) (h1 : a ≤ 67108863) (h : (a / 64).toNat ∈ S.pg) : S.err a = 0 := (err_iff h0 h1).2 (has_iff.2 ⟨by omega, h⟩)
theorem claim_new {S : Slb} (hS : S.Ok) {x : Int} (h0 : 0 ≤ x) (h1 : x ≤ 1048575) (h : S.has x = false) (hq : ((S.pg.length : Int) + 1) * 64 ≤ S.quota) :
    ∃ S1, S.claim x = (0, S1) ∧ S1.pg.length = S.pg.length + 1 ∧ S1.quota = S.quota ∧ S1.read (x * 64 + 63) = (0, 0) ∧ S1.err (x * 64) = 0 := by
  have hn : x.toNat ∉ S.pg := fun hin => by rw [has_iff.2 ⟨h0, hin⟩] at h; cases h
  have hf := free_one hn
  refine ⟨{ S with pg := more S.pg x.toNat 1 }, ?_, more_length hf, rfl, ?_, ?_⟩
  · unfold claim
    rw [if_neg (by omega), if_neg (by rw [h]; decide), if_neg (by omega)]
  · have e : ({ S with pg := more S.pg x.toNat 1 } : Slb).err (x * 64 + 63) = 0 := err_in (by omega) (by omega) ((mem_more hf).2 (.inr (by omega)))
    unfold read
    rw [if_pos e]
    show (S.wd (x * 64 + 63).toNat, (0 : Int)) = (0, 0)
    rw [hS.zero _ (by rw [show (x * 64 + 63).toNat / 64 = x.toNat by omega]; exact hn)]
  · exact err_in (by omega) (by omega) ((mem_more hf).2 (.inr (by omega)))

theorem grant_new {S : Slb} (hS : S.Ok) {n : Nat} (h1 : 1 ≤ n) (h2 : n ≤ 4096) (hq : ((S.pg.length : Int) + n) * 64 ≤ S.quota) (hb : n * S.pg.length + n ≤ 1048576) :
    ∃ S1, S.grant n = (((least S.pg n : Nat) : Int), 0, S1) ∧ S1.pg.length = S.pg.length + n ∧ S1.quota = S.quota ∧ ∀ a : Nat, least S.pg n * 64 ≤ a → a < (least S.pg n + n) * 64 → S1.err a = 0 ∧ S1.wd a = 0 := by
  obtain ⟨l1, l2, _⟩ := least_spec S.pg n h1
  refine ⟨{ S with pg := more S.pg (least S.pg n) n }, ?_, more_length l2, rfl, fun a ha hb2 => ?_⟩
  · unfold grant
    rw [if_neg (by omega), if_neg (by omega), Int.toNat_natCast]
  · refine ⟨err_in (by omega) (by omega) ?_, ?_⟩
    · exact (mem_more l2).2 (.inr (by omega))
    · refine hS.zero a fun hin => ?_
      rcases freeB_iff.1 l2 _ hin with h | h <;> omega

/-- A page's number is small, where the quota is. -/
theorem write_in {S : Slb} {a v : Int} (h : S.err a = 0) : S.write a v = (0, { S with wd := fun x => if x = a.toNat then v else S.wd x }) := by unfold write; rw [if_pos h]
theorem read_in {S : Slb} {a : Int} (h : S.err a = 0) : S.read a = (S.wd a.toNat, 0) := by unfold read; rw [if_pos h]
theorem err_pg {S S' : Slb} (h : S'.pg = S.pg) (a : Int) : S'.err a = S.err a := by unfold err has; rw [h]
theorem release_quota (S : Slb) (f n : Int) : (S.release f n).2.quota = S.quota := by
  unfold release
  split
  · rfl
  split <;> rfl
theorem claim_quota (S : Slb) (n : Int) : (S.claim n).2.quota = S.quota := by
  unfold claim
  split
  · rfl
  split
  · rfl
  split <;> rfl
theorem grant_quota (S : Slb) (n : Int) : (S.grant n).2.2.quota = S.quota := by
  unfold grant
  split
  · rfl
  split <;> rfl
theorem write_quota (S : Slb) (a v : Int) : (S.write a v).2.quota = S.quota := by unfold write; split <;> rfl
theorem move_quota (S : Slb) (t f n : Int) : (S.move t f n).2.quota = S.quota := by
  unfold move
  split
  · rfl
  split <;> rfl
theorem grant_bad {S : Slb} {n : Int} (h : n < 1 ∨ 4096 < n) : S.grant n = (0, 2, S) := by unfold grant; rw [if_pos h]
theorem grant_quo {S : Slb} {n : Int} (h : 1 ≤ n) (h' : n ≤ 4096) (hq : S.quota < (S.pg.length + n) * 64) : S.grant n = (0, 3, S) := by unfold grant; rw [if_neg (by omega), if_pos hq]
end Slb
end Go.Proofs.YtfmkiioahnphbaaDoor

namespace Go.Proofs.YtfmkiioahnphbaaDoor
open Go Go.RowKit

variable {F0 : Nat → Prop} {w0 w : World} {Ps : List Res}

namespace Slb
theorem find_mem {S : Slb} {a : Int} {p : Nat} {k : Int} {x : Hd} (h : S.find a = some (p, k, x)) : (p, x) ∈ S.heads ∧ p ∈ S.pg ∧ x = S.hd p := by
  obtain ⟨y, hy, hf⟩ := List.exists_of_findSome?_eq_some h
  have e : p = y.1 ∧ x = y.2 := by
    unfold findF at hf
    split at hf
    · cases hf; exact ⟨rfl, rfl⟩
    split at hf
    · cases hf
    · obtain ⟨j, _, hj⟩ := Option.map_eq_some_iff.1 hf
      cases hj; exact ⟨rfl, rfl⟩
  obtain ⟨rfl, rfl⟩ := e
  exact ⟨hy, (heads_mem hy).1, (heads_mem hy).2⟩
/-- How many words a place has. -/
def room (S : Slb) (a : Int) : Int × Int := match S.find a with
  | none => (0, 5)
  | some (_, _, x) => if x.kind = 2 then (wrap64 x.w, 0) else csize x.n
/-- A block less. -/
def hfree (S : Slb) (a : Int) : Int × Slb := match S.find a with
  | none => (5, S)
  | some (p, k, x) => if x.kind = 2 then S.release p x.n else (0, S.leave p k)
end Slb

set_option maxRecDepth 100000 in
set_option maxHeartbeats 1000000 in
theorem hroom_call (h : Sep F0 w0 w Ps) (i j : Nat) {b s : Nat} {S : Slb} (hi : Ps[i]? = some (hpAt b s)) (hj : Ps[j]? = some (slabR s S)) (a : Int) (a0 : -9223372036854775808 ≤ a) (a1 : a ≤ 9223372036854775807) :
    Calls Tryd.prog 10 #[.pointer (some ⟨b, 0, none⟩), .int .i64 a] w fun e w' => e = .returned (.tuple #[.int .i64 (S.room a).1, .int .i64 (S.room a).2]) ∧ Mod No w w' := by
  have hn := hnone_call h i hi
  have hf := h.hFind i j hi hj a a0 a1
  rcases hr : S.find a with _ | ⟨p, k, kd, nn, ww⟩
  · rw [hr] at hf
    have e : S.room a = (0, 5) := by unfold Slb.room; rw [hr]
    rw [e]
    clear h hr e
    go_enter Tryd.func10, Tryd.ntmps10
    go_wp2_with fail
    refine hn.mono ?_
    rintro e w' ⟨rfl, rfl⟩
    clear hn
    go_wp2_with fail
    refine hf.mono ?_
    rintro e w1 ⟨rfl, hm⟩
    unfold findA hdV
    clear hf
    have HM := Lib.hid (hm.alloc (.cells #[.int .i64 0, .int .i64 0, .int .u64 0] 71))
    clear hm
    go_wp2
    go_ret2
    exact ⟨rfl, HM.out⟩
  · rw [hr] at hf
    have hrg := Slb.hd_range (h.sOk j hj) (p : Int)
    rw [← (Slb.find_mem hr).2.2] at hrg
    dsimp only at hrg
    have e : S.room a = if kd = 2 then (wrap64 ww, 0) else csize nn := by unfold Slb.room; rw [hr]
    rw [e]
    unfold findA hdV at hf
    dsimp only at hf
    by_cases h2 : kd = 2
    · subst h2
      rw [if_pos rfl]
      clear h hr e
      go_enter Tryd.func10, Tryd.ntmps10
      go_wp2_with fail
      refine hn.mono ?_
      rintro e w' ⟨rfl, rfl⟩
      clear hn
      go_wp2_with fail
      refine hf.mono ?_
      rintro e w1 ⟨rfl, hm⟩
      clear hf
      have HM := Lib.hid (hm.alloc (.cells #[.int .i64 2, .int .i64 nn, .int .u64 ww] 71))
      clear hm
      go_wp2
      go_ret2
      exact ⟨rfl, HM.out⟩
    · rw [if_neg h2]
      have d2 : (kd == 2) = false := beqF h2
      have hc := fun W => size_call nn W
      generalize (csize nn).1 = z1 at *
      generalize (csize nn).2 = z2 at *
      have HC := Lib.hid hc
      clear h hr e h2 hc
      go_enter Tryd.func10, Tryd.ntmps10
      go_wp2_with fail
      refine hn.mono ?_
      rintro e w' ⟨rfl, rfl⟩
      clear hn
      go_wp2_with fail
      refine hf.mono ?_
      rintro e w1 ⟨rfl, hm⟩
      clear hf
      have HM := Lib.hid (hm.alloc (.cells #[.int .i64 kd, .int .i64 nn, .int .u64 ww] 71))
      clear hm
      go_wp2_with fail
      refine (HC.out _).mono ?_
      rintro e w2 ⟨rfl, hm2⟩
      have HM2 := Lib.hid (HM.out.trans' hm2)
      clear hm2
      go_wp2
      go_ret2
      exact ⟨rfl, HM2.out⟩


set_option maxRecDepth 100000 in
set_option maxHeartbeats 1000000 in
theorem hfree_call (h : Sep F0 w0 w Ps) (i j : Nat) (hij : i ≠ j) {b s : Nat} {S : Slb} (hi : Ps[i]? = some (hpAt b s)) (hj : Ps[j]? = some (slabR s S)) (a : Int) (a0 : -9223372036854775808 ≤ a) (a1 : a ≤ 9223372036854775807) {er : Int} {S' : Slb} (r : S.hfree a = (er, S')) :
    Calls Tryd.prog 16 #[.pointer (some ⟨b, 0, none⟩), .int .i64 a] w fun e w' => e = .returned (.int .i64 er) ∧ Sep F0 w0 w' (Ps.set j (slabR s S')) := by
  have hjl := (List.getElem?_eq_some_iff.1 hj).1
  have hn := hnone_call h i hi
  have hf := h.hFind i j hi hj a a0 a1
  rcases hr : S.find a with _ | ⟨p, k, kd, nn, ww⟩
  · rw [hr] at hf
    unfold Slb.hfree at r
    rw [hr] at r
    cases r
    have HH := Lib.hid (show Sep F0 w0 w (Ps.set j (slabR s S)) from by rw [setSame hj]; exact h)
    unfold findA hdV at hf
    clear h hr
    go_enter Tryd.func16, Tryd.ntmps16
    go_wp2_with fail
    refine hn.mono ?_
    rintro e w' ⟨rfl, rfl⟩
    clear hn
    go_wp2_with fail
    refine hf.mono ?_
    rintro e w1 ⟨rfl, hm⟩
    clear hf
    have HM := Lib.hid (HH.out.more (hm.alloc (.cells #[.int .i64 0, .int .i64 0, .int .u64 0] 71)))
    clear hm
    go_wp2
    go_ret
    exact ⟨rfl, HM.out⟩
  · rw [hr] at hf
    have hrg := Slb.hd_range (h.sOk j hj) (p : Int)
    rw [← (Slb.find_mem hr).2.2] at hrg
    have hps := (h.sOk j hj).small _ (Slb.find_mem hr).2.1
    dsimp only at hrg
    unfold Slb.hfree at r
    rw [hr] at r
    dsimp only at r
    unfold findA hdV at hf
    dsimp only at hf
    have HH := Lib.hid h
    by_cases h2 : kd = 2
    · subst h2
      rw [if_pos rfl] at r
      have HR := Lib.hid r
      clear h hr r
      go_enter Tryd.func16, Tryd.ntmps16
      go_wp2_with fail
      refine hn.mono ?_
      rintro e w' ⟨rfl, rfl⟩
      clear hn
      go_wp2_with fail
      refine hf.mono ?_
      rintro e w1 ⟨rfl, hm⟩
      clear hf
      have hB := (HH.out.more hm).pushCells #[.int .i64 2, .int .i64 nn, .int .u64 ww] 71
      obtain ⟨o, ho⟩ : ∃ o, w1.heap.size = o := ⟨_, rfl⟩
      rw [ho] at hB
      clear hm
      go_wp2_with fail
      obtain ⟨W, hW⟩ : ∃ x, w1.alloc (.cells #[.int .i64 2, .int .i64 nn, .int .u64 ww] 71) = x := ⟨_, rfl⟩
      rw [hW] at hB ⊢
      have c0 := (hB.cell i (getApp hi) 0 (v := .pointer (some ⟨s, 0, none⟩)) rfl).1
      have k1 := (hB.cell _ getLast' 1 (v := .int .i64 nn) rfl).1
      have hc := hB.drew.sRelease j (getApp hj) (p : Int) nn (by omega) HR.out
      rw [List.set_append_left _ _ hjl] at hc
      clear hB hW ho
      go_region_held3 (fun w' => w'.cell? ⟨b, 0, none⟩ = some (.pointer (some ⟨s, 0, none⟩)) ∧ w'.cell? ⟨o, 1, none⟩ = some (.int .i64 nn))
        (first | exact ⟨c0, k1⟩ | exact hold1)
        (first
          | (go_at_call 41; refine hc.mono ?_; rintro e w2 ⟨rfl, h2⟩; have hold1 := And.intro (h2.cell i (getApp (by rw [List.getElem?_set_ne (Ne.symm hij)]; exact hi)) 0 (v := .pointer (some ⟨s, 0, none⟩)) rfl).1 (h2.cell Ps.length (by rw [List.getElem?_append_right (by simp), List.length_set, Nat.sub_self]; rfl) 1 (v := .int .i64 nn) rfl).1; clear hc))
      have H2 := Lib.hid (Sep.left h2)
      clear hold1 h2 c0 k1
      go_wp2
      go_ret
      exact ⟨rfl, H2.out⟩
    · rw [if_neg h2] at r
      cases r
      have d2 : (kd == 2) = false := beqF h2
      clear h hr h2
      go_enter Tryd.func16, Tryd.ntmps16
      go_wp2_with fail
      refine hn.mono ?_
      rintro e w' ⟨rfl, rfl⟩
      clear hn
      go_wp2_with fail
      refine hf.mono ?_
      rintro e w1 ⟨rfl, hm⟩
      clear hf
      have hB := HH.out.more (hm.alloc (.cells #[.int .i64 kd, .int .i64 nn, .int .u64 ww] 71))
      have hc := hleave_call hB i j hij hi hj (p : Int) k (by omega) (by omega)
      clear hm hB
      go_wp2_with fail
      refine hc.mono ?_
      rintro e w2 ⟨⟨v, rfl⟩, h2⟩
      have H2 := Lib.hid h2
      clear hc h2
      go_wp2
      go_ret
      exact ⟨rfl, H2.out⟩
end Go.Proofs.YtfmkiioahnphbaaDoor

namespace Go.Proofs.YtfmkiioahnphbaaDoor
open Go Go.RowKit

variable {F0 : Nat → Prop} {w0 w : World} {Ps : List Res}

namespace Slb
/-- A block more: its address, an error, the arena behind it. -/
def halloc (S : Slb) (n : Int) : Int × Int × Slb :=
  if n < 1 ∨ 4000 < n then (0, 2, S)
  else if n ≤ 28 then match S.spot (clsOf n : Nat) with
    | some (p, k) => ((S.take p k).1, 0, (S.take p k).2)
    | none => if (S.grant 1).2.1 = 0 then ((((S.grant 1).2.2.put (S.grant 1).1 ⟨1, (clsOf n : Nat), 0⟩).take (S.grant 1).1 0).1, 0, (((S.grant 1).2.2.put (S.grant 1).1 ⟨1, (clsOf n : Nat), 0⟩).take (S.grant 1).1 0).2) else (0, (S.grant 1).2.1, (S.grant 1).2.2)
  else if (S.grant ((n + 65) / 64)).2.1 = 0 then ((S.grant ((n + 65) / 64)).1 * 64 + 2, 0, (S.grant ((n + 65) / 64)).2.2.put (S.grant ((n + 65) / 64)).1 ⟨2, (n + 65) / 64, n⟩) else (0, (S.grant ((n + 65) / 64)).2.1, (S.grant ((n + 65) / 64)).2.2)
theorem grant_bounds {S : Slb} (h : S.Ok) (n : Int) : 0 ≤ (S.grant n).1 ∧ (S.grant n).1 ≤ 16777216 := by
  unfold grant
  split
  · exact ⟨Int.le_refl 0, by show (0 : Int) ≤ _; omega⟩
  split
  · exact ⟨Int.le_refl 0, by show (0 : Int) ≤ _; omega⟩
  · rename_i h1 h2
    obtain ⟨l0, _, _⟩ := least_spec S.pg n.toNat (by omega)
    have hlen : S.pg.length ≤ 4096 := by have := h.fit; have := h.q1; omega
    have hmul : n.toNat * S.pg.length ≤ 4096 * 4096 := Nat.mul_le_mul (by omega) hlen
    refine ⟨?_, ?_⟩
    · show (0 : Int) ≤ (least S.pg n.toNat : Nat)
      omega
    · show ((least S.pg n.toNat : Nat) : Int) ≤ 16777216
      omega
end Slb


set_option maxRecDepth 100000 in
theorem halloc_bad (h : Sep F0 w0 w Ps) (i j : Nat) {b s : Nat} {S : Slb} (hi : Ps[i]? = some (hpAt b s)) (hj : Ps[j]? = some (slabR s S)) (n : Int) (hbad : n < 1 ∨ 4000 < n) :
    Calls Tryd.prog 15 #[.pointer (some ⟨b, 0, none⟩), .int .i64 n] w fun e w' => e = .returned (.tuple #[.int .i64 0, .int .i64 2]) ∧ Sep F0 w0 w' (Ps.set j (slabR s S)) := by
  have hn := hnone_call h i hi
  have ho := of_call n w
  rw [cof_bad hbad] at ho
  have HH := Lib.hid (show Sep F0 w0 w (Ps.set j (slabR s S)) from by rw [setSame hj]; exact h)
  clear h hbad
  go_enter Tryd.func15, Tryd.ntmps15
  go_wp2_with fail
  refine hn.mono ?_
  rintro e w' ⟨rfl, rfl⟩
  clear hn
  go_wp2_with fail
  refine ho.mono ?_
  rintro e w1 ⟨rfl, hm⟩
  have H1 := Lib.hid (HH.out.more hm)
  clear hm ho
  go_wp2
  go_ret2
  exact ⟨rfl, H1.out⟩

set_option maxRecDepth 100000 in
set_option maxHeartbeats 1000000 in
theorem halloc_large (h : Sep F0 w0 w Ps) (i j : Nat) (hij : i ≠ j) {b s : Nat} {S : Slb} (hi : Ps[i]? = some (hpAt b s)) (hj : Ps[j]? = some (slabR s S)) (n : Int) (h1 : 28 < n) (h2 : n ≤ 4000) {x er : Int} {S' : Slb} (r : S.halloc n = (x, er, S')) :
    Calls Tryd.prog 15 #[.pointer (some ⟨b, 0, none⟩), .int .i64 n] w fun e w' => e = .returned (.tuple #[.int .i64 x, .int .i64 er]) ∧ Sep F0 w0 w' (Ps.set j (slabR s S')) := by
  have hjl := (List.getElem?_eq_some_iff.1 hj).1
  have hn := hnone_call h i hi
  have ho := of_call n w
  have hp := fun W => pages_call n W
  have hgb := Slb.grant_bounds (h.sOk j hj) ((n + 65) / 64)
  rw [cof_large h1 h2] at ho
  rw [cpages_large h1 h2] at hp
  unfold Slb.halloc at r
  rw [if_neg (by omega), if_neg (by omega)] at r
  obtain ⟨m, hm⟩ : ∃ x, (n + 65) / 64 = x := ⟨_, rfl⟩
  have hmb : 1 ≤ m ∧ m ≤ 64 := by omega
  rw [hm] at r hp hgb
  rcases hg : S.grant m with ⟨p, eg, S1⟩
  rw [hg] at r hgb
  dsimp only at r hgb
  have HH := Lib.hid h
  have HP := Lib.hid hp
  have HG := Lib.hid hg
  have HR := Lib.hid r
  clear h r hm hp hg
  go_enter Tryd.func15, Tryd.ntmps15
  go_wp2_with fail
  refine hn.mono ?_
  rintro e w' ⟨rfl, rfl⟩
  clear hn
  go_wp2_with fail
  refine ho.mono ?_
  rintro e w1 ⟨rfl, hm1⟩
  have H1 := Lib.hid (HH.out.more hm1)
  clear hm1 ho
  go_wp2_with fail
  refine (HP.out _).mono ?_
  rintro e w2 ⟨rfl, hm2⟩
  have H2 := Lib.hid (H1.out.more hm2)
  have c0 := (H2.out.cell i hi 0 (v := .pointer (some ⟨s, 0, none⟩)) rfl).1
  have hc := H2.out.sGrant j hj m HG.out
  clear hm2 H1
  go_wp2_with fail
  refine hc.mono ?_
  rintro e w3 ⟨rfl, h3⟩
  clear hc c0 H2
  by_cases he : eg = 0
  · subst he
    have hpt := hput_call h3 i j hij (by rw [List.getElem?_set_ne (Ne.symm hij)]; exact hi) (List.getElem?_set_self hjl) p hgb.1 (by omega) ⟨2, m, n⟩ (by show (0 : Int) ≤ 2; omega) (by show (2 : Int) < 256; omega) (by show 0 ≤ m; omega) (by show m < _; omega) (by show 0 ≤ n; omega) (by show n < _; omega)
    dsimp only at hpt
    rw [List.set_set] at hpt
    have hfin := Lib.hid (show x = p * 64 + 2 ∧ er = 0 ∧ S' = S1.put p ⟨2, m, n⟩ from by
      have r := HR.out
      rw [if_pos rfl] at r
      cases r
      exact ⟨rfl, rfl, rfl⟩)
    have hwn : IntKind.u64.wrap n = n := by rw [IntKind.wrap_u64]; omega
    clear h3
    go_wp2_with fail
    refine hpt.mono ?_
    rintro e w4 ⟨⟨v, rfl⟩, h4⟩
    have H4 := Lib.hid h4
    clear hpt h4
    go_wp2
    go_ret2
    obtain ⟨e1, e2, e3⟩ := hfin.out
    exact ⟨by rw [e1, e2]; rfl, by rw [e3]; exact H4.out⟩
  · have hne : (eg != 0) = true := bneT he
    have hfin := Lib.hid (show x = 0 ∧ er = eg ∧ S' = S1 from by
      have r := HR.out
      rw [if_neg he] at r
      cases r
      exact ⟨rfl, rfl, rfl⟩)
    have H3 := Lib.hid h3
    clear h3 he
    go_wp2
    go_ret2
    obtain ⟨e1, e2, e3⟩ := hfin.out
    exact ⟨by rw [e1, e2]; rfl, by rw [e3]; exact H3.out⟩

namespace Slb
theorem spot_mem {S : Slb} {c : Int} {p : Nat} {k : Int} (h : S.spot c = some (p, k)) : p ∈ S.pg ∧ 0 ≤ k := by
  obtain ⟨y, hy, hf⟩ := List.exists_of_findSome?_eq_some h
  unfold spotF at hf
  split at hf
  · rename_i hc
    cases hf
    exact ⟨(heads_mem hy).1, hc.2.2⟩
  · cases hf
end Slb

set_option maxRecDepth 100000 in
set_option maxHeartbeats 1000000 in
theorem halloc_small (h : Sep F0 w0 w Ps) (i j : Nat) (hij : i ≠ j) {b s : Nat} {S : Slb} (hi : Ps[i]? = some (hpAt b s)) (hj : Ps[j]? = some (slabR s S)) (hT : Tab64 w) (n : Int) (h1 : 1 ≤ n) (h2 : n ≤ 28) {x er : Int} {S' : Slb} (r : S.halloc n = (x, er, S')) :
    Calls Tryd.prog 15 #[.pointer (some ⟨b, 0, none⟩), .int .i64 n] w fun e w' => e = .returned (.tuple #[.int .i64 x, .int .i64 er]) ∧ Sep F0 w0 w' (Ps.set j (slabR s S')) := by
  have hjl := (List.getElem?_eq_some_iff.1 hj).1
  have hn := hnone_call h i hi
  have ho := of_call n w
  have hgb := Slb.grant_bounds (h.sOk j hj) 1
  have hok := h.sOk j hj
  have hcl := clsOf_lt n
  rw [cof_small h1 h2] at ho
  unfold Slb.halloc at r
  rw [if_neg (by omega), if_pos h2] at r
  obtain ⟨c, hc⟩ : ∃ x, clsOf n = x := ⟨_, rfl⟩
  rw [hc] at r ho hcl
  have HH := Lib.hid h
  have HT := Lib.hid hT
  rcases hs : S.spot (c : Nat) with _ | ⟨p, k⟩
  · rw [hs] at r
    dsimp only at r
    rcases hg : S.grant 1 with ⟨p, eg, S1⟩
    rw [hg] at r hgb
    dsimp only at r hgb
    have HG := Lib.hid hg
    have HR := Lib.hid r
    have HS := Lib.hid hs
    clear h r hc hg hs hT
    go_enter Tryd.func15, Tryd.ntmps15
    go_wp2_with fail
    refine hn.mono ?_
    rintro e w' ⟨rfl, rfl⟩
    clear hn
    go_wp2_with fail
    refine ho.mono ?_
    rintro e w1 ⟨rfl, hm1⟩
    have H1 := Lib.hid (HH.out.more hm1)
    have hsp := H1.out.hSpot i j hi hj (HT.out.mod hm1) (c : Nat)
    rw [HS.out] at hsp
    unfold spotA at hsp
    dsimp only at hsp
    clear hm1 ho
    go_wp2_with fail
    refine hsp.mono ?_
    rintro e w2 ⟨rfl, hm2⟩
    have H2 := Lib.hid (H1.out.more hm2)
    have c0 := (H2.out.cell i hi 0 (v := .pointer (some ⟨s, 0, none⟩)) rfl).1
    have hcg := H2.out.sGrant j hj 1 HG.out
    clear hm2 H1 hsp
    go_wp2_with fail
    refine hcg.mono ?_
    rintro e w3 ⟨rfl, h3⟩
    clear hcg c0 H2
    by_cases he : eg = 0
    · subst he
      have hi3 : (Ps.set j (slabR s S1))[i]? = some (hpAt b s) := by rw [List.getElem?_set_ne (Ne.symm hij)]; exact hi
      have hpt := hput_call h3 i j hij hi3 (List.getElem?_set_self hjl) p hgb.1 (by omega) ⟨1, (c : Nat), 0⟩ (by show (0 : Int) ≤ 1; omega) (by show (1 : Int) < 256; omega) (by show (0 : Int) ≤ (c : Nat); omega) (by show ((c : Nat) : Int) < _; omega) (by show (0 : Int) ≤ 0; omega) (by show (0 : Int) < _; omega)
      dsimp only at hpt
      rw [List.set_set] at hpt
      have hfin := Lib.hid (show x = ((S1.put p ⟨1, (c : Nat), 0⟩).take p 0).1 ∧ er = 0 ∧ S' = ((S1.put p ⟨1, (c : Nat), 0⟩).take p 0).2 from by
        have r := HR.out
        rw [if_pos rfl] at r
        cases r
        exact ⟨rfl, rfl, rfl⟩)
      clear h3 hi3
      go_wp2_with fail
      refine hpt.mono ?_
      rintro e w4 ⟨⟨v, rfl⟩, h4⟩
      have htk := htake_call h4 i j hij (by rw [List.getElem?_set_ne (Ne.symm hij)]; exact hi) (List.getElem?_set_self hjl) p 0 hgb.1 (by omega)
      rw [List.set_set] at htk
      obtain ⟨e1, e2, e3⟩ := hfin.out
      rw [← e1, ← e3] at htk
      have HE := Lib.hid e2
      clear hpt h4 e1 e2 e3 hfin
      go_wp2_with fail
      refine htk.mono ?_
      rintro e w5 ⟨rfl, h5⟩
      have H5 := Lib.hid h5
      clear htk h5
      go_wp2
      go_ret2
      exact ⟨by rw [HE.out]; rfl, H5.out⟩
    · have hne : (eg != 0) = true := bneT he
      have hfin := Lib.hid (show x = 0 ∧ er = eg ∧ S' = S1 from by
        have r := HR.out
        rw [if_neg he] at r
        cases r
        exact ⟨rfl, rfl, rfl⟩)
      have H3 := Lib.hid h3
      clear h3 he
      go_wp2
      go_ret2
      obtain ⟨e1, e2, e3⟩ := hfin.out
      exact ⟨by rw [e1, e2]; rfl, by rw [e3]; exact H3.out⟩
  · rw [hs] at r
    dsimp only at r
    cases r
    have hmem := Slb.spot_mem hs
    have hps := hok.small _ hmem.1
    have HS := Lib.hid hs
    clear h hc hs hT
    go_enter Tryd.func15, Tryd.ntmps15
    go_wp2_with fail
    refine hn.mono ?_
    rintro e w' ⟨rfl, rfl⟩
    clear hn
    go_wp2_with fail
    refine ho.mono ?_
    rintro e w1 ⟨rfl, hm1⟩
    have H1 := Lib.hid (HH.out.more hm1)
    have hsp := H1.out.hSpot i j hi hj (HT.out.mod hm1) (c : Nat)
    rw [HS.out] at hsp
    unfold spotA at hsp
    dsimp only at hsp
    clear hm1 ho
    go_wp2_with fail
    refine hsp.mono ?_
    rintro e w2 ⟨rfl, hm2⟩
    have H2 := Lib.hid (H1.out.more hm2)
    have htk := htake_call H2.out i j hij hi hj (p : Int) k (by omega) (by omega)
    clear hm2 H1 hsp H2
    go_wp2_with fail
    refine htk.mono ?_
    rintro e w3 ⟨rfl, h3⟩
    have H3 := Lib.hid h3
    clear htk h3
    go_wp2
    go_ret2
    exact ⟨rfl, H3.out⟩

theorem Sep.hAlloc (h : Sep F0 w0 w Ps) (i j : Nat) (hij : i ≠ j) {b s : Nat} {S : Slb} (hi : Ps[i]? = some (hpAt b s)) (hj : Ps[j]? = some (slabR s S)) (hT : Tab64 w) (n : Int) {x er : Int} {S' : Slb} (r : S.halloc n = (x, er, S')) :
    Calls Tryd.prog 15 #[.pointer (some ⟨b, 0, none⟩), .int .i64 n] w fun e w' => e = .returned (.tuple #[.int .i64 x, .int .i64 er]) ∧ Sep F0 w0 w' (Ps.set j (slabR s S')) := by
  by_cases hb : n < 1 ∨ 4000 < n
  · have e : S.halloc n = (0, 2, S) := if_pos hb
    rw [e] at r
    cases r
    exact halloc_bad h i j hi hj n hb
  by_cases h2 : n ≤ 28
  · exact halloc_small h i j hij hi hj hT n (by omega) h2 r
  · exact halloc_large h i j hij hi hj n (by omega) (by omega) r
end Go.Proofs.YtfmkiioahnphbaaDoor

namespace Go.Proofs.YtfmkiioahnphbaaDoor
open Go Go.RowKit

variable {F0 : Nat → Prop} {w0 w : World} {Ps : List Res}

namespace Slb
/-- How many free pages end below a page. -/
def runAt (S : Slb) : Nat → Nat
  | 0 => 0
  | p + 1 => if S.has p then 0 else runAt S p + 1
def lowF (S : Slb) (n : Int) (p : Nat) : Bool := !S.has p && decide ((S.runAt (p + 1) : Int) = n)
/-- The least page from which on so many are free, or some own ones. -/
def low (S : Slb) (own : Nat) (n : Int) : Int := match (List.range own).find? (S.lowF n) with
  | some p => (p : Int) - n + 1
  | none => (own : Int) - S.runAt own
theorem runAt_le (S : Slb) : ∀ p, S.runAt p ≤ p
  | 0 => Nat.le_refl _
  | p + 1 => by
    have := runAt_le S p
    unfold runAt
    split <;> omega
end Slb
def NoLow (S : Slb) (n : Int) (p : Nat) : Prop := ∀ k : Nat, k < p → S.lowF n k = false

set_option maxRecDepth 100000 in
set_option maxHeartbeats 1000000 in
theorem hlower_call (h : Sep F0 w0 w Ps) (i j : Nat) {b s : Nat} {S : Slb} (hi : Ps[i]? = some (hpAt b s)) (hj : Ps[j]? = some (slabR s S)) (own : Nat) (hown : own ≤ 33554432) (n : Int) (n0 : 0 ≤ n) (n1 : n ≤ 72057594037927936) :
    Calls Tryd.prog 68 #[.pointer (some ⟨b, 0, none⟩), .int .i64 own, .int .i64 n] w fun e w' => e = .returned (.int .i64 (S.low own n)) ∧ w = w' := by
  have c0 := (h.cell i hi 0 (v := .pointer (some ⟨s, 0, none⟩)) rfl).1
  have HIS := Lib.hid (show ∀ p : Nat, p ≤ 33554432 → Calls Tryd.prog 11 #[.pointer (some ⟨s, 0, none⟩), .int .i64 p] w fun e w' => e = .returned (.bool (S.has p)) ∧ w = w' from fun p hp => h.sIs j hj (p : Int) (by omega) (by omega))
  clear h hi hj
  go_enter Tryd.func68, Tryd.ntmps68
  go_wp2_with fail
  go_loop [7, 8] (fun run iv => ∃ t : Nat, t ≤ own ∧ iv = .int .i64 t ∧ run = .int .i64 (S.runAt t : Nat) ∧ NoLow S n t) (fun _ iv => own - (RowKit.intOf iv).toNat)
  case atStart => exact ⟨0, Nat.zero_le _, rfl, rfl, fun k hk => by omega⟩
  case round =>
    obtain ⟨t, ht, rfl, rfl, hno⟩ := hrel
    have hle := Slb.runAt_le S t
    have HNO := Lib.hid hno
    clear hno
    by_cases hlt : t < own
    · have hlt' : (t : Int) < (own : Int) := by omega
      have hc := HIS.out t (by omega)
      have HRS := Lib.hid (show S.runAt (t + 1) = if S.has (t : Int) then 0 else S.runAt t + 1 from rfl)
      cases hh : S.has (t : Int) with
      | true =>
        rw [hh] at hc
        have HQ := Lib.hid (show NoLow S n (t + 1) ∧ S.runAt (t + 1) = 0 from by
          refine ⟨fun k hk => ?_, by rw [HRS.out, hh]; rfl⟩
          rcases Nat.lt_or_ge k t with h | h
          · exact HNO.out k h
          · obtain rfl : k = t := by omega
            unfold Slb.lowF
            rw [hh]
            rfl)
        clear hh
        go_wp2_with fail
        refine hc.mono ?_
        rintro e w' ⟨rfl, rfl⟩
        clear hc
        go_wp2
        go_round
        case rel => exact ⟨t + 1, by omega, by go_num, by rw [HQ.out.2]; rfl, HQ.out.1⟩
        case measure => simp [RowKit.intOf]; omega
      | false =>
        rw [hh] at hc
        have hrs : S.runAt (t + 1) = S.runAt t + 1 := by rw [HRS.out, hh]; rfl
        by_cases hn : ((S.runAt t : Nat) : Int) + 1 = n
        · have dn : (((S.runAt t : Nat) : Int) + 1 == n) = true := beqT hn
          have hfin := Lib.hid (show S.low own n = (t : Int) - n + 1 from by
            have hf : (List.range own).find? (S.lowF n) = some t := find_range hlt (by unfold Slb.lowF; rw [hh, hrs]; simp; omega) HNO.out
            unfold Slb.low
            rw [hf])
          have e1 : IntKind.i64.wrap ((t : Int) - n) = (t : Int) - n := by rw [IntKind.wrap_i64]; omega
          have e2 : IntKind.i64.wrap ((t : Int) - n + 1) = (t : Int) - n + 1 := by rw [IntKind.wrap_i64]; omega
          have hra : ((S.runAt t : Nat) : Int) ≤ 33554432 := by omega
          generalize S.runAt t = ra at *
          clear hh hrs hn
          go_wp2_with fail
          refine hc.mono ?_
          rintro e w' ⟨rfl, rfl⟩
          clear hc
          go_wp2
          go_ret
          exact ⟨by rw [hfin.out]; rfl, rfl⟩
        · have dn : (((S.runAt t : Nat) : Int) + 1 == n) = false := beqF hn
          have HQ := Lib.hid (show NoLow S n (t + 1) ∧ S.runAt (t + 1) = S.runAt t + 1 from by
            refine ⟨fun k hk => ?_, hrs⟩
            rcases Nat.lt_or_ge k t with h | h
            · exact HNO.out k h
            · obtain rfl : k = t := by omega
              unfold Slb.lowF
              rw [hrs, Bool.and_eq_false_iff]
              exact .inr (decide_eq_false (by push_cast; exact hn)))
          have hra : ((S.runAt t : Nat) : Int) ≤ 33554432 := by omega
          clear hh hrs hn
          go_wp2_with fail
          refine hc.mono ?_
          rintro e w' ⟨rfl, rfl⟩
          clear hc
          go_wp2
          go_round
          case rel => exact ⟨t + 1, by omega, by go_num, by rw [HQ.out.2]; push_cast; rfl, HQ.out.1⟩
          case measure => simp [RowKit.intOf]; omega
    · obtain rfl : own = t := by omega
      have hfin := Lib.hid (show S.low own n = (own : Int) - (S.runAt own : Nat) from by
        have hf : (List.range own).find? (S.lowF n) = none := List.find?_eq_none.2 fun k hk => by rw [HNO.out k (List.mem_range.1 hk)]; decide
        unfold Slb.low
        rw [hf])
      have hra : ((S.runAt own : Nat) : Int) ≤ (own : Int) := by omega
      have e1 : IntKind.i64.wrap ((own : Int) - (S.runAt own : Nat)) = (own : Int) - (S.runAt own : Nat) := by rw [IntKind.wrap_i64]; omega
      clear hlt
      go_wp2
      go_ret
      exact ⟨by rw [hfin.out]; rfl, rfl⟩
end Go.Proofs.YtfmkiioahnphbaaDoor

namespace Go.Proofs.YtfmkiioahnphbaaDoor
open Go Go.RowKit

variable {F0 : Nat → Prop} {w0 w : World} {Ps : List Res}

namespace Slb
/-- The words of a run, as they are read. -/
def rds (S : Slb) (a : Int) (n : Nat) : List Int := (List.range n).map fun k : Nat => S.rd (a + (k : Int))
/-- Some words, written one by one. -/
def wrs (S : Slb) (a : Int) (l : List Int) : Nat → Slb
  | 0 => S
  | k + 1 => ((wrs S a l k).write (a + (k : Int)) (l.getD k 0)).2
theorem rds_len (S : Slb) (a : Int) (n : Nat) : (S.rds a n).length = n := by simp [rds]
theorem rds_succ (S : Slb) (a : Int) (n : Nat) : S.rds a (n + 1) = S.rds a n ++ [S.rd (a + (n : Int))] := by simp [rds, List.range_succ]
/-- A large block goes lower. -/
def slideL (S : Slb) (p : Nat) (n : Int) : Int × Slb :=
  if S.low p n = (p : Int) then ((p : Int) * 64 + 2, S)
  else ((((S.release p n).2.grant n).1) * 64 + 2, ((S.release p n).2.grant n).2.2.wrs ((((S.release p n).2.grant n).1) * 64) (S.rds ((p : Int) * 64) (n * 64).toNat) (n * 64).toNat)
end Slb

set_option maxRecDepth 100000 in
set_option maxHeartbeats 1000000 in
theorem hslideL_same (h : Sep F0 w0 w Ps) (i j : Nat) {b s : Nat} {S : Slb} (hi : Ps[i]? = some (hpAt b s)) (hj : Ps[j]? = some (slabR s S)) (p : Nat) (hp : p ≤ 33554432) (kd n ww : Int) (n0 : 0 ≤ n) (n1 : n ≤ 100000) (hl : S.low p n = (p : Int)) :
    Calls Tryd.prog 43 #[.pointer (some ⟨b, 0, none⟩), .int .i64 p, .agg #[.int .i64 kd, .int .i64 n, .int .u64 ww]] w fun e w' => e = .returned (.int .i64 ((p : Int) * 64 + 2)) ∧ Sep F0 w0 w' Ps := by
  have hB := h.alloc (.cells #[.int .i64 kd, .int .i64 n, .int .u64 ww] 71)
  have hc := hlower_call hB i j hi hj p hp n n0 (by omega)
  rw [hl] at hc
  have HB := Lib.hid hB
  have dp : ((p : Int) == (p : Int)) = true := beqT rfl
  have hp0 : (0 : Int) ≤ (p : Int) := by omega
  have hp1 : (p : Int) ≤ 33554432 := by omega
  clear h hi hj hl hB
  go_enter Tryd.func43, Tryd.ntmps43
  go_wp2_with fail
  refine hc.mono ?_
  rintro e w' ⟨rfl, rfl⟩
  clear hc
  go_wp2
  go_ret
  exact ⟨rfl, HB.out⟩

theorem setLast {L : List Res} {R R' : Res} : (L ++ [R]).set L.length R' = L ++ [R'] := by
  rw [List.set_append_right _ _ (Nat.le_refl _), Nat.sub_self]; rfl

set_option maxRecDepth 100000 in
set_option maxHeartbeats 2000000 in
theorem hslideL_move (h : Sep F0 w0 w Ps) (i j : Nat) (hij : i ≠ j) {b s : Nat} {S : Slb} (hi : Ps[i]? = some (hpAt b s)) (hj : Ps[j]? = some (slabR s S)) (p : Nat) (hp : p ≤ 33554432) (kd ww : Int) (m : Nat) (hm : m ≤ 1000) (hl : S.low p m ≠ (p : Int)) {at_ eg : Int} {S2 : Slb} (hg : (S.release p m).2.grant m = (at_, eg, S2)) :
    Calls Tryd.prog 43 #[.pointer (some ⟨b, 0, none⟩), .int .i64 p, .agg #[.int .i64 kd, .int .i64 (m : Nat), .int .u64 ww]] w fun e w' => e = .returned (.int .i64 (at_ * 64 + 2)) ∧ Sep F0 w0 w' (Ps.set j (slabR s (S2.wrs (at_ * 64) (S.rds ((p : Int) * 64) (m * 64)) (m * 64)))) := by
  have hjl := (List.getElem?_eq_some_iff.1 hj).1
  have hok := h.sOk j hj
  have hB := h.pushCells #[.int .i64 kd, .int .i64 (m : Nat), .int .u64 ww] 71
  have hc := hlower_call (h.alloc (.cells #[.int .i64 kd, .int .i64 (m : Nat), .int .u64 ww] 71)) i j hi hj p hp (m : Nat) (by omega) (by omega)
  obtain ⟨lo, hlo⟩ : ∃ x, S.low p (m : Nat) = x := ⟨_, rfl⟩
  rw [hlo] at hc hl
  have dp : (lo == (p : Int)) = false := beqF hl
  have hp0 : (0 : Int) ≤ (p : Int) := by omega
  have hp1 : (p : Int) ≤ 33554432 := by omega
  have hm0 : (0 : Int) ≤ (m : Int) := by omega
  have hm1 : (m : Int) ≤ 1000 := by omega
  obtain ⟨o, ho⟩ : ∃ o, w.heap.size = o := ⟨_, rfl⟩
  rw [ho] at hB
  obtain ⟨L, hL⟩ : ∃ L, Ps ++ [cellsAt o #[.int .i64 kd, .int .i64 (m : Nat), .int .u64 ww] 71] = L := ⟨_, rfl⟩
  have hiL : L[i]? = some (hpAt b s) := hL ▸ getApp hi
  have hjL : L[j]? = some (slabR s S) := hL ▸ getApp hj
  have hoL : L[Ps.length]? = some (cellsAt o #[.int .i64 kd, .int .i64 (m : Nat), .int .u64 ww] 71) := hL ▸ getLast'
  rw [hL] at hB
  have HL := Lib.hid (And.intro hL (And.intro hiL (And.intro hjL hoL)))
  have HX := Lib.hid (show Sep F0 w0 (w.alloc (.cells #[.int .i64 kd, .int .i64 (m : Nat), .int .u64 ww] 71)) (L ++ [rowAt 31 1 (.slice none 0 0) 0 ((S.rds ((p : Int) * 64) 0).map (Value.int .u64))]) from hB.pushNil _ _)
  have HG := Lib.hid (And.intro hg hok)
  have HP := Lib.hid (And.intro hi hj)
  have k1 := (hB.cell _ hoL 1 (v := .int .i64 (m : Nat)) rfl).1
  clear h hL hiL hjL hoL hB hg hl hlo hok hi hj
  go_enter Tryd.func43, Tryd.ntmps43
  go_wp2_with fail
  refine hc.mono ?_
  rintro e w' ⟨rfl, rfl⟩
  clear hc
  obtain ⟨W, hW⟩ : ∃ x, w.alloc (.cells #[.int .i64 kd, .int .i64 (m : Nat), .int .u64 ww] 71) = x := ⟨_, rfl⟩
  rw [hW] at HX k1 ⊢
  clear hW
  go_wp2_with fail
  go_loopw [8, 30] (fun l iv wr => ∃ t : Nat, t ≤ m * 64 ∧ iv = .int .i64 t ∧ Sep F0 w0 wr (L ++ [rowAt 31 1 l t ((S.rds ((p : Int) * 64) t).map (Value.int .u64))])) (fun _ iv _ => m * 64 - (RowKit.intOf iv).toNat)
  case atStart => exact ⟨0, Nat.zero_le _, rfl, HX.out⟩
  case round =>
    obtain ⟨t, ht, rfl, h⟩ := hrel
    clear HX k1
    obtain ⟨sl, cl, rfl⟩ := h.form L.length getLast'
    have c0 := (h.cell i (getApp HL.out.2.1) 0 (v := .pointer (some ⟨s, 0, none⟩)) rfl).1
    by_cases hlt : t < m * 64
    · have hlt' : (t : Int) < (m : Int) * 64 := by omega
      have ht0 : (0 : Int) ≤ (t : Int) := by omega
      have hpt : (p : Int) * 64 + (t : Int) ≤ 4294967296 := by omega
      obtain ⟨rv, hrv⟩ : ∃ x, S.read ((p : Int) * 64 + (t : Int)) = x := ⟨_, rfl⟩
      obtain ⟨x, ex⟩ := rv
      have hc := h.sRead j (getApp HL.out.2.2.1) ((p : Int) * 64 + (t : Int)) hrv
      have hX := Lib.hid (show S.rds ((p : Int) * 64) (t + 1) = S.rds ((p : Int) * 64) t ++ [x] from by
        rw [Slb.rds_succ]
        unfold Slb.rd
        rw [hrv])
      obtain ⟨i0, hi0, hz0, hz1, hz2⟩ := info_parts infoU64
      have HI := Lib.hid (And.intro hi0 (And.intro hz0 (And.intro hz1 hz2)))
      have H := Lib.hid h
      clear h hrv hi0 hz0 hz1 hz2
      go_wp2_with fail
      refine hc.mono ?_
      rintro e w1 ⟨rfl, rfl⟩
      have h := H.out
      obtain ⟨hi0, hz0, hz1, hz2⟩ := HI.out
      clear hc
      go_wp2_with (at_builtin; refine wpList_append_sep1 h L.length getLast' (by rfl) _ _ 113 rfl Tryd.underlying113 hi0 hz0 hz1 hz2 rfl (by rfl) _ _ (by rfl) (by simp) (by rfl) _ (by unfold maxLen; omega) (by omega) ?_)
      intro gg capg w3 h3
      have H3 := Lib.hid h3
      clear h3 h hi0 hz0 hz1 hz2 H c0
      go_wp2
      go_roundw
      case rel =>
        refine ⟨t + 1, by omega, by go_num, ?_⟩
        rw [hX.out, List.map_append, List.map_cons, List.map_nil]
        exact H3.out
      case measure => simp [RowKit.intOf]; omega
    · obtain rfl : t = m * 64 := by omega
      have k1 := (h.cell _ (getApp HL.out.2.2.2) 1 (v := .int .i64 (m : Nat)) rfl).1
      have hw64 : (((m * 64 : Nat) : Int)) = (m : Int) * 64 := by omega
      have H := Lib.hid h
      clear h hlt
      obtain ⟨S1, hS1⟩ : ∃ x, (S.release (p : Int) (m : Nat)).2 = x := ⟨_, rfl⟩
      have hc := H.out.drew.sRelease j (getApp HL.out.2.2.1) (p : Int) (m : Nat) (by omega) (er := (S.release (p : Int) (m : Nat)).1) (S' := S1) (by rw [← hS1])
      generalize (S.release (p : Int) (m : Nat)).1 = er1 at *
      have hLl : L.length = Ps.length + 1 := by rw [← HL.out.1]; simp
      have hjm : j < (L ++ [rowAt 31 1 (.slice sl (m * 64) cl) (m * 64) ((S.rds ((p : Int) * 64) (m * 64)).map (Value.int .u64))]).length := by simp; omega
      have GI := Lib.hid (show ∀ R : Res, ((L ++ [rowAt 31 1 (.slice sl (m * 64) cl) (m * 64) ((S.rds ((p : Int) * 64) (m * 64)).map (Value.int .u64))]).set j R)[i]? = some (hpAt b s) from fun R => by rw [List.getElem?_set_ne (Ne.symm hij)]; exact getApp HL.out.2.1)
      have GJ := Lib.hid (show ∀ R : Res, ((L ++ [rowAt 31 1 (.slice sl (m * 64) cl) (m * 64) ((S.rds ((p : Int) * 64) (m * 64)).map (Value.int .u64))]).set j R)[j]? = some R from fun R => List.getElem?_set_self hjm)
      have GO := Lib.hid (show ∀ R : Res, ((L ++ [rowAt 31 1 (.slice sl (m * 64) cl) (m * 64) ((S.rds ((p : Int) * 64) (m * 64)).map (Value.int .u64))]).set j R)[Ps.length]? = some (cellsAt o #[.int .i64 kd, .int .i64 (m : Nat), .int .u64 ww] 71) from fun R => by rw [List.getElem?_set_ne (by omega)]; exact getApp HL.out.2.2.2)
      have GR := Lib.hid (show ∀ R : Res, ((L ++ [rowAt 31 1 (.slice sl (m * 64) cl) (m * 64) ((S.rds ((p : Int) * 64) (m * 64)).map (Value.int .u64))]).set j R)[L.length]? = some (rowAt 31 1 (.slice sl (m * 64) cl) (m * 64) ((S.rds ((p : Int) * 64) (m * 64)).map (Value.int .u64))) from fun R => by rw [List.getElem?_set_ne (by omega)]; exact getLast')
      have GF := Lib.hid (show ∀ R : Res, ∀ W, Sep F0 w0 W ((L ++ [rowAt 31 1 (.slice sl (m * 64) cl) (m * 64) ((S.rds ((p : Int) * 64) (m * 64)).map (Value.int .u64))]).set j R) → Sep F0 w0 W (Ps.set j R) from fun R W h => by
        rw [List.set_append_left _ _ (by omega), ← HL.out.1, List.set_append_left _ _ hjl] at h
        exact Sep.left (Sep.left h))
      obtain ⟨L2, hL2⟩ : ∃ L2 : Res → List Res, (fun R => (L ++ [rowAt 31 1 (.slice sl (m * 64) cl) (m * 64) ((S.rds ((p : Int) * 64) (m * 64)).map (Value.int .u64))]).set j R) = L2 := ⟨_, rfl⟩
      have hset : ∀ R R' : Res, (L2 R).set j R' = L2 R' := fun R R' => by rw [← hL2]; exact List.set_set ..
      have HSET := Lib.hid hset
      have hc : Calls Tryd.prog 41 #[.pointer (some ⟨s, 0, none⟩), .int .i64 (p : Int), .int .i64 (m : Nat)] wr.drew fun e w' => e = .returned (.int .i64 er1) ∧ Sep F0 w0 w' (L2 (slabR s S1)) := by rw [← hL2]; exact hc
      have KI : Hid (∀ R : Res, (L2 R)[i]? = some (hpAt b s)) := by rw [← hL2]; exact GI
      have KJ : Hid (∀ R : Res, (L2 R)[j]? = some R) := by rw [← hL2]; exact GJ
      have KO : Hid (∀ R : Res, (L2 R)[Ps.length]? = some (cellsAt o #[.int .i64 kd, .int .i64 (m : Nat), .int .u64 ww] 71)) := by rw [← hL2]; exact GO
      have KR : Hid (∀ R : Res, (L2 R)[L.length]? = some (rowAt 31 1 (.slice sl (m * 64) cl) (m * 64) ((S.rds ((p : Int) * 64) (m * 64)).map (Value.int .u64)))) := by rw [← hL2]; exact GR
      have KF : Hid (∀ R : Res, ∀ W, Sep F0 w0 W (L2 R) → Sep F0 w0 W (Ps.set j R)) := by rw [← hL2]; exact GF
      have HS1 := Lib.hid hS1
      clear hL2 hset hS1 hLl hjm GI GJ GO GR GF
      go_wp2_with fail
      go_region_held3 (fun w' => w'.cell? ⟨b, 0, none⟩ = some (.pointer (some ⟨s, 0, none⟩)) ∧ w'.cell? ⟨o, 1, none⟩ = some (.int .i64 (m : Nat)))
        (first | exact ⟨c0, k1⟩ | exact hold1)
        (first
          | (go_at_call 41; refine hc.mono ?_; rintro e w1 ⟨rfl, h1⟩; have hold1 := And.intro (h1.cell i (KI.out _) 0 (v := .pointer (some ⟨s, 0, none⟩)) rfl).1 (h1.cell _ (KO.out _) 1 (v := .int .i64 (m : Nat)) rfl).1; clear hc))
      have c0 := hold1.1
      have k1 := hold1.2
      have hgg : S1.grant (m : Nat) = (at_, eg, S2) := by rw [← HS1.out]; exact HG.out.1
      have hd := h1.drew.sGrant j (KJ.out _) (m : Nat) hgg
      rw [HSET.out] at hd
      have hab : 0 ≤ at_ ∧ at_ ≤ 16777216 := by
        have := Slb.grant_bounds (h1.sOk j (KJ.out _)) (m : Nat)
        rw [hgg] at this
        exact this
      obtain ⟨ha0, ha1⟩ := hab
      clear hold1 h1 hgg
      go_wp2_with fail
      go_region_held3 (fun w' => w'.cell? ⟨b, 0, none⟩ = some (.pointer (some ⟨s, 0, none⟩)) ∧ w'.cell? ⟨o, 1, none⟩ = some (.int .i64 (m : Nat)))
        (first | exact ⟨c0, k1⟩ | exact hold1)
        (first
          | (go_at_call 37; refine hd.mono ?_; rintro e w2 ⟨rfl, h2⟩; have hold1 := And.intro (h2.cell i (KI.out _) 0 (v := .pointer (some ⟨s, 0, none⟩)) rfl).1 (h2.cell _ (KO.out _) 1 (v := .int .i64 (m : Nat)) rfl).1; clear hd))
      have HX := Lib.hid (show Sep F0 w0 w2 (L2 (slabR s (S2.wrs (at_ * 64) (S.rds ((p : Int) * 64) (m * 64)) 0))) from h2)
      clear hold1 h2 c0 k1
      go_wp2_with fail
      go_loopw [70] (fun iv wr => ∃ t : Nat, t ≤ m * 64 ∧ iv = .int .i64 t ∧ Sep F0 w0 wr (L2 (slabR s (S2.wrs (at_ * 64) (S.rds ((p : Int) * 64) (m * 64)) t)))) (fun iv _ => m * 64 - (RowKit.intOf iv).toNat)
      case atStart => exact ⟨0, Nat.zero_le _, rfl, HX.out⟩
      case round =>
        obtain ⟨t, ht, rfl, h⟩ := hrel
        clear HX
        have c0 := (h.cell i (KI.out _) 0 (v := .pointer (some ⟨s, 0, none⟩)) rfl).1
        by_cases hlt : t < m * 64
        · have hlt' : (t : Int) < (m : Int) * 64 := by omega
          have ht0 : (0 : Int) ≤ (t : Int) := by omega
          have hat : at_ * 64 + (t : Int) ≤ 4294967296 := by omega
          have hget : (S.rds ((p : Int) * 64) (m * 64))[t]? = some (S.rd ((p : Int) * 64 + (t : Int))) := by simp [Slb.rds, hlt]
          obtain ⟨g, rfl, cx, _⟩ := h.item L.length (KR.out _) (o := t) (x := .int .u64 (S.rd ((p : Int) * 64 + (t : Int)))) (by rw [List.getElem?_map, hget]; rfl)
          have hrr := Slb.rd_range HG.out.2 ((p : Int) * 64 + (t : Int))
          have hw := h.sWrite j (KJ.out _) (at_ * 64 + (t : Int)) (S.rd ((p : Int) * 64 + (t : Int))) hrr.1 hrr.2 (er := ((S2.wrs (at_ * 64) (S.rds ((p : Int) * 64) (m * 64)) t).write (at_ * 64 + (t : Int)) (S.rd ((p : Int) * 64 + (t : Int)))).1) (S' := S2.wrs (at_ * 64) (S.rds ((p : Int) * 64) (m * 64)) (t + 1)) (by
            show _ = (_, ((S2.wrs (at_ * 64) (S.rds ((p : Int) * 64) (m * 64)) t).write (at_ * 64 + (t : Int)) ((S.rds ((p : Int) * 64) (m * 64)).getD t 0)).2)
            rw [List.getD_eq_getElem?_getD, hget]
            rfl)
          rw [HSET.out] at hw
          generalize ((S2.wrs (at_ * 64) (S.rds ((p : Int) * 64) (m * 64)) t).write (at_ * 64 + (t : Int)) (S.rd ((p : Int) * 64 + (t : Int)))).1 = ew at *
          generalize S.rd ((p : Int) * 64 + (t : Int)) = x at *
          clear h hget hrr
          go_wp2_with fail
          refine hw.mono ?_
          rintro e w5 ⟨rfl, h5⟩
          have H5 := Lib.hid h5
          clear hw h5
          go_wp2
          go_roundw
          case rel => exact ⟨t + 1, by omega, by go_num, H5.out⟩
          case measure => simp [RowKit.intOf]; omega
        · obtain rfl : t = m * 64 := by omega
          have H5 := Lib.hid (KF.out _ _ h)
          clear h hlt
          go_wp2
          go_ret
          exact ⟨rfl, H5.out⟩

theorem hslideL_call (h : Sep F0 w0 w Ps) (i j : Nat) (hij : i ≠ j) {b s : Nat} {S : Slb} (hi : Ps[i]? = some (hpAt b s)) (hj : Ps[j]? = some (slabR s S)) (p : Nat) (hp : p ≤ 33554432) (kd ww : Int) (m : Nat) (hm : m ≤ 1000) :
    Calls Tryd.prog 43 #[.pointer (some ⟨b, 0, none⟩), .int .i64 p, .agg #[.int .i64 kd, .int .i64 (m : Nat), .int .u64 ww]] w fun e w' => e = .returned (.int .i64 (S.slideL p m).1) ∧ Sep F0 w0 w' (Ps.set j (slabR s (S.slideL p m).2)) := by
  by_cases hl : S.low p (m : Nat) = (p : Int)
  · have e : S.slideL p m = ((p : Int) * 64 + 2, S) := if_pos hl
    rw [e]
    dsimp only
    rw [setSame hj]
    exact hslideL_same h i j hi hj p hp kd m ww (by omega) (by omega) hl
  · rcases hg : (S.release (p : Int) (m : Nat)).2.grant (m : Nat) with ⟨at_, eg, S2⟩
    have e : S.slideL p m = (at_ * 64 + 2, S2.wrs (at_ * 64) (S.rds ((p : Int) * 64) (m * 64)) (m * 64)) := by
      unfold Slb.slideL
      rw [if_neg hl, hg]
      have : ((m : Int) * 64).toNat = m * 64 := by omega
      rw [this]
    rw [e]
    exact hslideL_move h i j hij hi hj p hp kd ww m hm hl hg
end Go.Proofs.YtfmkiioahnphbaaDoor

namespace Go.Proofs.YtfmkiioahnphbaaDoor
open Go Go.RowKit

variable {F0 : Nat → Prop} {w0 w : World} {Ps : List Res}

namespace Slb
/-- A block goes lower. -/
def hslide (S : Slb) (a : Int) : Int × Int × Slb := match S.find a with
  | none => (0, 5, S)
  | some (p, k, x) => if x.kind = 2 then ((S.slideL p x.n).1, 0, (S.slideL p x.n).2)
    else match S.spot x.n with
      | none => (a, 0, S)
      | some (q, m) => if a < hplace q x.n m then (a, 0, S)
        else ((S.take q m).1, 0, (((S.take q m).2.move (S.take q m).1 a (csize x.n).1).2).leave p k)
end Slb


set_option maxRecDepth 100000 in
set_option maxHeartbeats 1000000 in
theorem hslide_none (h : Sep F0 w0 w Ps) (i j : Nat) {b s : Nat} {S : Slb} (hi : Ps[i]? = some (hpAt b s)) (hj : Ps[j]? = some (slabR s S)) (a : Int) (a0 : -9223372036854775808 ≤ a) (a1 : a ≤ 9223372036854775807) (hr : S.find a = none) :
    Calls Tryd.prog 17 #[.pointer (some ⟨b, 0, none⟩), .int .i64 a] w fun e w' => e = .returned (.tuple #[.int .i64 0, .int .i64 5]) ∧ Sep F0 w0 w' (Ps.set j (slabR s S)) := by
  have hn := hnone_call h i hi
  have hf := h.hFind i j hi hj a a0 a1
  rw [hr] at hf
  unfold findA hdV at hf
  have HH := Lib.hid (show Sep F0 w0 w (Ps.set j (slabR s S)) from by rw [setSame hj]; exact h)
  clear h hr
  go_enter Tryd.func17, Tryd.ntmps17
  go_wp2_with fail
  refine hn.mono ?_
  rintro e w' ⟨rfl, rfl⟩
  clear hn
  go_wp2_with fail
  refine hf.mono ?_
  rintro e w1 ⟨rfl, hm⟩
  clear hf
  have HM := Lib.hid (HH.out.more (hm.alloc (.cells #[.int .i64 0, .int .i64 0, .int .u64 0] 71)))
  clear hm
  go_wp2
  go_ret2
  exact ⟨rfl, HM.out⟩

set_option maxRecDepth 100000 in
set_option maxHeartbeats 1000000 in
theorem hslide_large (h : Sep F0 w0 w Ps) (i j : Nat) (hij : i ≠ j) {b s : Nat} {S : Slb} (hi : Ps[i]? = some (hpAt b s)) (hj : Ps[j]? = some (slabR s S)) (a : Int) (a0 : -9223372036854775808 ≤ a) (a1 : a ≤ 9223372036854775807) {p : Nat} {k ww : Int} {m : Nat} (hm1000 : m ≤ 1000) (hr : S.find a = some (p, k, ⟨2, (m : Nat), ww⟩)) :
    Calls Tryd.prog 17 #[.pointer (some ⟨b, 0, none⟩), .int .i64 a] w fun e w' => e = .returned (.tuple #[.int .i64 (S.slideL p m).1, .int .i64 0]) ∧ Sep F0 w0 w' (Ps.set j (slabR s (S.slideL p m).2)) := by
  have hn := hnone_call h i hi
  have hf := h.hFind i j hi hj a a0 a1
  rw [hr] at hf
  unfold findA hdV at hf
  dsimp only at hf
  have hps := (h.sOk j hj).small _ (Slb.find_mem hr).2.1
  have HH := Lib.hid h
  clear h hr
  go_enter Tryd.func17, Tryd.ntmps17
  go_wp2_with fail
  refine hn.mono ?_
  rintro e w' ⟨rfl, rfl⟩
  clear hn
  go_wp2_with fail
  refine hf.mono ?_
  rintro e w1 ⟨rfl, hm⟩
  clear hf
  have hB := HH.out.more (hm.alloc (.cells #[.int .i64 2, .int .i64 (m : Nat), .int .u64 ww] 71))
  have hc := hslideL_call hB i j hij hi hj p (by omega) 2 ww m hm1000
  clear hm hB
  go_wp2_with fail
  refine hc.mono ?_
  rintro e w2 ⟨rfl, h2⟩
  have H2 := Lib.hid h2
  clear hc h2
  go_wp2
  go_ret2
  exact ⟨rfl, H2.out⟩
end Go.Proofs.YtfmkiioahnphbaaDoor

namespace Go.Proofs.YtfmkiioahnphbaaDoor
open Go Go.RowKit

variable {F0 : Nat → Prop} {w0 w : World} {Ps : List Res}

theorem Slb.find_kind {S : Slb} {a : Int} {p : Nat} {k kd nn ww : Int} (h : S.find a = some (p, k, ⟨kd, nn, ww⟩)) (h2 : kd ≠ 2) : kd = 1 := by
  obtain ⟨⟨y1, yh⟩, _, hf⟩ := List.exists_of_findSome?_eq_some h
  unfold findF at hf
  dsimp only at hf
  split at hf
  · rename_i hk
    injection hf with hf
    injection hf with _ hf
    injection hf with _ hf
    rw [hf] at hk
    exact absurd hk.1 h2
  split at hf
  · cases hf
  · rename_i hk
    obtain ⟨j, _, hj⟩ := Option.map_eq_some_iff.1 hf
    injection hj with _ hj
    injection hj with _ hj
    rw [hj] at hk
    dsimp only at hk
    omega


set_option maxRecDepth 100000 in
set_option maxHeartbeats 1000000 in
theorem hslide_small (h : Sep F0 w0 w Ps) (i j : Nat) (hij : i ≠ j) {b s : Nat} {S : Slb} (hi : Ps[i]? = some (hpAt b s)) (hj : Ps[j]? = some (slabR s S)) (hT : Tab64 w) (a : Int) (a0 : -9223372036854775808 ≤ a) (a1 : a ≤ 9223372036854775807) {p : Nat} {k nn ww : Int} (hr : S.find a = some (p, k, ⟨1, nn, ww⟩)) :
    Calls Tryd.prog 17 #[.pointer (some ⟨b, 0, none⟩), .int .i64 a] w fun e w' => e = .returned (.tuple #[.int .i64 (S.hslide a).1, .int .i64 (S.hslide a).2.1]) ∧ Sep F0 w0 w' (Ps.set j (slabR s (S.hslide a).2.2)) := by
  have hjl := (List.getElem?_eq_some_iff.1 hj).1
  have hn := hnone_call h i hi
  have hf := h.hFind i j hi hj a a0 a1
  have hok := h.sOk j hj
  have hps := hok.small _ (Slb.find_mem hr).2.1
  have hE : S.hslide a = (match S.spot nn with
      | none => (a, 0, S)
      | some (q, m) => if a < hplace q nn m then (a, 0, S)
        else ((S.take q m).1, 0, (((S.take q m).2.move (S.take q m).1 a (csize nn).1).2).leave p k)) := by
    unfold Slb.hslide
    rw [hr]
    rfl
  rw [hr] at hf
  unfold findA hdV at hf
  dsimp only at hf
  have HH := Lib.hid h
  have HT := Lib.hid hT
  rcases hs : S.spot nn with _ | ⟨q, m⟩
  · rw [hs] at hE
    dsimp only at hE
    rw [hE]
    dsimp only
    have HS := Lib.hid hs
    clear h hr hs hT hE
    go_enter Tryd.func17, Tryd.ntmps17
    go_wp2_with fail
    refine hn.mono ?_
    rintro e w' ⟨rfl, rfl⟩
    clear hn
    go_wp2_with fail
    refine hf.mono ?_
    rintro e w1 ⟨rfl, hm⟩
    clear hf
    have hB := HH.out.more (hm.alloc (.cells #[.int .i64 1, .int .i64 nn, .int .u64 ww] 71))
    have hsp := hB.hSpot i j hi hj (HT.out.mod (hm.alloc _)) nn
    rw [HS.out] at hsp
    unfold spotA at hsp
    dsimp only at hsp
    have H1 := Lib.hid hB
    clear hm hB
    go_wp2_with fail
    refine hsp.mono ?_
    rintro e w2 ⟨rfl, hm2⟩
    have H2 := Lib.hid (H1.out.more hm2)
    clear hm2 H1 hsp
    go_wp2
    go_ret2
    exact ⟨rfl, by rw [setSame hj]; exact H2.out⟩
  · rw [hs] at hE
    dsimp only at hE
    have hmem := Slb.spot_mem hs
    have hqs := hok.small _ hmem.1
    by_cases hlt : a < hplace q nn m
    · rw [if_pos hlt] at hE
      rw [hE]
      dsimp only
      have HS := Lib.hid hs
      clear h hr hs hT hE
      go_enter Tryd.func17, Tryd.ntmps17
      go_wp2_with fail
      refine hn.mono ?_
      rintro e w' ⟨rfl, rfl⟩
      clear hn
      go_wp2_with fail
      refine hf.mono ?_
      rintro e w1 ⟨rfl, hm⟩
      clear hf
      have hB := (HH.out.more hm).pushCells #[.int .i64 1, .int .i64 nn, .int .u64 ww] 71
      have hsp := hB.hSpot i j (getApp hi) (getApp hj) (HT.out.mod (hm.alloc _)) nn
      rw [HS.out] at hsp
      unfold spotA at hsp
      dsimp only at hsp
      have H1 := Lib.hid hB
      clear hm hB
      go_wp2_with fail
      refine hsp.mono ?_
      rintro e w2 ⟨rfl, hm2⟩
      have h2 := H1.out.more hm2
      have k1 := (h2.cell _ getLast' 1 (v := .int .i64 nn) rfl).1
      have H2 := Lib.hid h2
      have hpl := hplace_call q nn m (by omega) (by omega) w2
      obtain ⟨z, hz⟩ : ∃ z, hplace q nn m = z := ⟨_, rfl⟩
      rw [hz] at hpl hlt
      clear hm2 H1 hsp h2 hz
      go_wp2_with fail
      refine hpl.mono ?_
      rintro e w3 ⟨rfl, hm3⟩
      have H3 := Lib.hid (H2.out.more hm3).left
      clear hm3 hpl H2 k1
      go_wp2
      go_ret2
      exact ⟨rfl, by rw [setSame hj]; exact H3.out⟩
    · rw [if_neg hlt] at hE
      rw [hE]
      dsimp only
      have HS := Lib.hid hs
      obtain ⟨to, hto⟩ : ∃ z, (S.take q m).1 = z := ⟨_, rfl⟩
      obtain ⟨S1, hS1⟩ : ∃ z, (S.take q m).2 = z := ⟨_, rfl⟩
      obtain ⟨cs, hcs⟩ : ∃ z, (csize nn).1 = z := ⟨_, rfl⟩
      rw [hto, hS1, hcs]
      obtain ⟨S2, hS2⟩ : ∃ z, (S1.move to a cs).2 = z := ⟨_, rfl⟩
      rw [hS2]
      have htob : 0 ≤ to ∧ to ≤ 4294967296 := by
        rw [← hto]
        have := cplace_range (S.hd q).n m
        show 0 ≤ (q : Int) * 64 + _ ∧ (q : Int) * 64 + _ ≤ _
        omega
      obtain ⟨to0, to1⟩ := htob
      have HE := Lib.hid (And.intro hto (And.intro hS1 (And.intro hcs hS2)))
      clear h hr hs hT hE hto hS1 hcs hS2
      go_enter Tryd.func17, Tryd.ntmps17
      go_wp2_with fail
      refine hn.mono ?_
      rintro e w' ⟨rfl, rfl⟩
      clear hn
      go_wp2_with fail
      refine hf.mono ?_
      rintro e w1 ⟨rfl, hm⟩
      clear hf
      have hB := (HH.out.more hm).pushCells #[.int .i64 1, .int .i64 nn, .int .u64 ww] 71
      obtain ⟨o, ho⟩ : ∃ o, w1.heap.size = o := ⟨_, rfl⟩
      rw [ho] at hB
      obtain ⟨L, hL⟩ : ∃ L, Ps ++ [cellsAt o #[.int .i64 1, .int .i64 nn, .int .u64 ww] 71] = L := ⟨_, rfl⟩
      have hiL : L[i]? = some (hpAt b s) := hL ▸ getApp hi
      have hjL : L[j]? = some (slabR s S) := hL ▸ getApp hj
      have hoL : L[Ps.length]? = some (cellsAt o #[.int .i64 1, .int .i64 nn, .int .u64 ww] 71) := hL ▸ getLast'
      have hLl : L.length = Ps.length + 1 := by rw [← hL]; simp
      have hjm : j < L.length := by omega
      rw [hL] at hB
      have KI := Lib.hid (show ∀ R : Res, (L.set j R)[i]? = some (hpAt b s) from fun R => by rw [List.getElem?_set_ne (Ne.symm hij)]; exact hiL)
      have KJ := Lib.hid (show ∀ R : Res, (L.set j R)[j]? = some R from fun R => List.getElem?_set_self hjm)
      have KO := Lib.hid (show ∀ R : Res, (L.set j R)[Ps.length]? = some (cellsAt o #[.int .i64 1, .int .i64 nn, .int .u64 ww] 71) from fun R => by rw [List.getElem?_set_ne (by omega)]; exact hoL)
      have KF := Lib.hid (show ∀ R : Res, ∀ W, Sep F0 w0 W (L.set j R) → Sep F0 w0 W (Ps.set j R) from fun R W h => by
        rw [← hL, List.set_append_left _ _ hjl] at h
        exact Sep.left h)
      have KL := Lib.hid (And.intro hiL (And.intro hjL hoL))
      have hsp := hB.hSpot i j hiL hjL (HT.out.mod (hm.alloc _)) nn
      rw [HS.out] at hsp
      unfold spotA at hsp
      dsimp only at hsp
      have H1 := Lib.hid hB
      clear hm hB hL hiL hjL hoL hLl hjm
      go_wp2_with fail
      refine hsp.mono ?_
      rintro e w2 ⟨rfl, hm2⟩
      have h2 := H1.out.more hm2
      have k1 := (h2.cell _ KL.out.2.2 1 (v := .int .i64 nn) rfl).1
      have H2 := Lib.hid h2
      have hpl := hplace_call q nn m (by omega) (by omega) w2
      obtain ⟨z, hz⟩ : ∃ z, hplace q nn m = z := ⟨_, rfl⟩
      rw [hz] at hpl hlt
      clear hm2 H1 hsp h2 hz ho
      go_wp2_with fail
      refine hpl.mono ?_
      rintro e w3 ⟨rfl, hm3⟩
      have H3 := Lib.hid (H2.out.more hm3)
      have htk := htake_call H3.out i j hij KL.out.1 KL.out.2.1 (q : Int) m (by omega) (by omega)
      rw [HE.out.1, HE.out.2.1] at htk
      clear hm3 hpl H2 k1
      go_wp2_with fail
      refine htk.mono ?_
      rintro e w4 ⟨rfl, h4⟩
      have k1 := (h4.cell _ (KO.out _) 1 (v := .int .i64 nn) rfl).1
      have H4 := Lib.hid h4
      have hsz := size_call nn w4
      obtain ⟨ce, hce⟩ : ∃ z, (csize nn).2 = z := ⟨_, rfl⟩
      rw [HE.out.2.2.1, hce] at hsz
      clear htk h4 H3 hce
      go_wp2_with fail
      refine hsz.mono ?_
      rintro e w5 ⟨rfl, hm5⟩
      have h5 := H4.out.more hm5
      have c0 := (h5.cell i (KI.out _) 0 (v := .pointer (some ⟨s, 0, none⟩)) rfl).1
      have hmv := h5.sMove j (KJ.out _) to a cs (by omega) (by omega) (er := (S1.move to a cs).1) (S' := (S1.move to a cs).2) rfl
      rw [List.set_set] at hmv
      obtain ⟨er, her⟩ : ∃ z, (S1.move to a cs).1 = z := ⟨_, rfl⟩
      rw [HE.out.2.2.2, her] at hmv
      clear hsz h5 hm5 H4 her
      go_wp2_with fail
      refine hmv.mono ?_
      rintro e w6 ⟨rfl, h6⟩
      have hlv := hleave_call h6 i j hij (KI.out _) (KJ.out _) (p : Int) k (by omega) (by omega)
      rw [List.set_set] at hlv
      clear hmv h6 c0
      go_wp2_with fail
      refine hlv.mono ?_
      rintro e w7 ⟨⟨v, rfl⟩, h7⟩
      have H7 := Lib.hid (KF.out _ _ h7)
      clear hlv h7
      go_wp2
      go_ret2
      exact ⟨rfl, H7.out⟩

theorem Sep.hSlide (h : Sep F0 w0 w Ps) (i j : Nat) (hij : i ≠ j) {b s : Nat} {S : Slb} (hi : Ps[i]? = some (hpAt b s)) (hj : Ps[j]? = some (slabR s S)) (hT : Tab64 w) (a : Int) (a0 : -9223372036854775808 ≤ a) (a1 : a ≤ 9223372036854775807)
    (hbig : ∀ p k x, S.find a = some (p, k, x) → x.kind = 2 → x.n ≤ 1000) :
    Calls Tryd.prog 17 #[.pointer (some ⟨b, 0, none⟩), .int .i64 a] w fun e w' => e = .returned (.tuple #[.int .i64 (S.hslide a).1, .int .i64 (S.hslide a).2.1]) ∧ Sep F0 w0 w' (Ps.set j (slabR s (S.hslide a).2.2)) := by
  rcases hr : S.find a with _ | ⟨p, k, kd, nn, ww⟩
  · have e : S.hslide a = (0, 5, S) := by unfold Slb.hslide; rw [hr]
    rw [e]
    exact hslide_none h i j hi hj a a0 a1 hr
  · by_cases h2 : kd = 2
    · subst h2
      have hb := hbig _ _ _ hr rfl
      have hrg := Slb.hd_range (h.sOk j hj) (p : Int)
      rw [← (Slb.find_mem hr).2.2] at hrg
      dsimp only at hb hrg
      obtain ⟨m, rfl⟩ : ∃ m : Nat, nn = m := ⟨nn.toNat, by omega⟩
      have e : S.hslide a = ((S.slideL p m).1, 0, (S.slideL p m).2) := by unfold Slb.hslide; rw [hr]; rfl
      rw [e]
      exact hslide_large h i j hij hi hj a a0 a1 (by omega) hr
    · have := Slb.find_kind hr h2
      subst this
      exact hslide_small h i j hij hi hj hT a a0 a1 hr
end Go.Proofs.YtfmkiioahnphbaaDoor
