/- slab.Slab: Claim, Grant, Release, Move, walked. Conditions: the arena is as said; arguments are 64-bit. -/
import Derived.Test.YtnkdopaajpbjfaaSlabWalk
namespace Go.Proofs.Ytnkdopaajpbjfaa
open Go Go.RowKit

variable {F0 : Nat → Prop} {w0 w : World} {Ps : List Res}


set_option maxRecDepth 100000 in
theorem Sep.sClaim (h : Sep F0 w0 w Ps) (i : Nat) {s : Nat} {S : Slb} (hi : Ps[i]? = some (slabR s S)) (n : Int) (n0 : -9223372036854775808 ≤ n) (n1 : n ≤ 9223372036854775807) {er : Int} {S' : Slb} (r : S.claim n = (er, S')) :
    Calls Try.prog 11 #[.pointer (some ⟨s, 0, none⟩), .int .i64 n] w fun e w' => e = .returned (.int .i64 er) ∧ Sep F0 w0 w' (Ps.set i (slabR s S')) := by
  obtain ⟨b, p, hM, hS, back⟩ := h.sGet i hi
  have hfin := Lib.hid (back w b p S hM hS (Mod.refl _ w) (fun k hk => .inl hk))
  have hok := Slb.claim_ok hS n
  have hN := hM.there
  have c1 := hM.c1
  have c0 := hM.c0
  rw [r] at hok
  unfold Slb.claim at r
  have hq := hS.q1
  have hfit := hS.fit
  have hlen : (0 : Int) ≤ (S.pg.length : Int) ∧ (S.pg.length : Int) ≤ 4096 := by omega
  have hln := fun m ty => hM.len ty (w.drewN m) rfl
  by_cases g1 : n < 0
  · rw [if_pos (.inl g1)] at r
    cases r
    have d1 : decide (n < 0) = true := ltT g1
    clear h hi hM hS back hok hln g1
    go_enter Try.func11, Try.ntmps11
    go_wp2_with ((with_reducible refine hN.mono ?_); rintro e w' ⟨rfl, rfl⟩)
    go_ret
    exact ⟨rfl, hfin.out⟩
  by_cases g1' : 1048575 < n
  · rw [if_pos (.inr g1')] at r
    cases r
    have d1 : decide (n < 0) = false := ltF (by omega)
    have d2 : decide (1048575 < n) = true := ltT g1'
    clear h hi hM hS back hok hln g1 g1'
    go_enter Try.func11, Try.ntmps11
    go_wp2_with ((with_reducible refine hN.mono ?_); rintro e w' ⟨rfl, rfl⟩)
    go_ret
    exact ⟨rfl, hfin.out⟩
  rw [if_neg (by omega)] at r
  have d1 : decide (n < 0) = false := ltF (by omega)
  have d2 : decide (1048575 < n) = false := ltF (by omega)
  have hn0 : 0 ≤ n := by omega
  have hn1 : n ≤ 1048575 := by omega
  by_cases g2 : S.has n = true
  · rw [if_pos g2] at r
    cases r
    have hl := hM.look (Slb.has_iff.1 g2).2
    rw [show ((n.toNat : Nat) : Int) = n by omega] at hl
    clear h hi hM hS back hok hln g1 g1' g2
    go_enter Try.func11, Try.ntmps11
    go_wp2_with ((with_reducible refine hN.mono ?_); rintro e w' ⟨rfl, rfl⟩)
    go_ret
    exact ⟨rfl, hfin.out⟩
  rw [if_neg g2] at r
  have hl := hM.miss (n := n) (fun k hk e => g2 (Slb.has_iff.2 ⟨by omega, by rw [show n.toNat = k by omega]; exact hk⟩)) n0 n1
  by_cases g3 : S.quota < (S.pg.length + 1) * 64
  · rw [if_pos g3] at r
    cases r
    have d3 : decide (S.quota < ((S.pg.length : Int) + 1) * 64) = true := ltT g3
    have hfin := Lib.hid (fun w' (hm : Mod No w w') => hfin.out.more hm)
    clear h hi hM hS back hok g1 g1' g2 g3
    go_enter Try.func11, Try.ntmps11
    go_wp2_with ((with_reducible refine hN.mono ?_); rintro e w' ⟨rfl, rfl⟩)
    refine wp_region_quiet_lit (by kernel_rfl) (by kernel_rfl) ?_
    repeat (go_big_quiet_step (fail))
    refine wpQuiet_nil ?_
    intro wq hwq
    obtain ⟨nq, hwq⟩ := hwq
    have hq := Mod.of_drewN hwq
    clear hwq nq
    have HQ := Lib.hid hq
    clear hq
    go_wp2
    go_ret
    exact ⟨rfl, hfin.out _ HQ.out⟩
  rw [if_neg g3] at r
  cases r
  have d3 : decide (S.quota < ((S.pg.length : Int) + 1) * 64) = false := ltF (by omega)
  have hnk : n.toNat ∉ S.pg := fun hin => g2 (Slb.has_iff.2 ⟨by omega, hin⟩)
  have H := Lib.hid (And.intro hM (And.intro back (And.intro hok (And.intro hS hnk))))
  clear hM back hok h hi hfin g1 g1' g2 g3 hS hnk
  go_enter Try.func11, Try.ntmps11
  go_wp2_with ((with_reducible refine hN.mono ?_); rintro e w' ⟨rfl, rfl⟩)
  refine wp_region_quiet_lit (by kernel_rfl) (by kernel_rfl) ?_
  repeat (go_big_quiet_step (fail))
  refine wpQuiet_nil ?_
  intro wq hwq
  obtain ⟨nq, hwq⟩ := hwq
  have hq := Mod.of_drewN hwq
  clear hwq nq
  obtain ⟨hM, back, hok, hS, hnk⟩ := H.out
  have hM2 : SlabM wq s b S.quota S.pg p S.wd := hM.keep fun k hk => hq.block k (hM.lt k hk) (fun x => x)
  have c1 := hM2.c1
  have HQ := Lib.hid hq
  have HB := Lib.hid back
  clear hM back hq c0
  go_wp2_with (at_mapUpdate; refine wpList_newPage hM2 (by rfl) _ _ _ (by rfl) (by rfl) n.toNat n (by rfl) (by omega) hnk (by omega) (fun j hj => hS.zero _ (by rw [show (64 * n.toNat + j) / 64 = n.toNat by omega]; exact hnk)) (by omega) _ (by rfl) (by first | rfl | simp) _ (by rfl) ?_)
  intro w2 hM3 hm3
  have hf := Slb.free_one hnk
  have hp : (n.toNat :: S.pg).Perm (Slb.more S.pg n.toNat 1) := (Slb.more_perm hf).symm
  have hfin := Lib.hid (HB.out w2 b _ { S with pg := Slb.more S.pg n.toNat 1 } (hM3.perm hp) hok ((((Mod.refl _ w).trans' (HQ.out.mono fun _ _ x => x.elim))).trans (hm3.mono fun k _ hk => .inl (.inr (.inl hk)))) (fun k hk => by
    have hsz := HQ.out.size
    rcases hk with rfl | rfl | ⟨j, hj, rfl⟩
    · exact .inl (.inl rfl)
    · exact .inl (.inr (.inl rfl))
    · dsimp only
      by_cases e : j = n.toNat
      · rw [if_pos e]; exact .inr hsz
      · rw [if_neg e]
        refine .inl (.inr (.inr ⟨j, ?_, rfl⟩))
        rcases (Slb.mem_more hf).1 hj with hj | hj
        · exact hj
        · omega))
  clear hM2 hM3 hm3 hS hnk hf hp HB hok
  go_wp2
  go_ret
  exact ⟨rfl, hfin.out⟩

def addsL (pg : List Nat) (f : Nat) : Nat → List Nat
  | 0 => pg
  | k + 1 => (f + k) :: addsL pg f k
theorem addsL_perm (pg : List Nat) (f : Nat) : ∀ k, (addsL pg f k).Perm ((List.range k).map (f + ·) ++ pg)
  | 0 => List.Perm.refl _
  | k + 1 => by
    rw [addsL, List.range_succ, List.map_append, List.append_assoc]
    refine (List.Perm.cons _ (addsL_perm pg f k)).trans ?_
    exact (List.perm_middle).symm
theorem addsL_mem (pg : List Nat) (f k x : Nat) : x ∈ addsL pg f k ↔ x ∈ pg ∨ f ≤ x ∧ x < f + k := by
  rw [(addsL_perm pg f k).mem_iff]
  simp only [List.mem_append, List.mem_map, List.mem_range]
  constructor
  · rintro (⟨j, hj, rfl⟩ | h)
    · exact .inr ⟨by omega, by omega⟩
    · exact .inl h
  · rintro (h | h)
    · exact .inr h
    · exact .inl ⟨x - f, by omega, by omega⟩
theorem addsL_len (pg : List Nat) (f k : Nat) : (addsL pg f k).length = k + pg.length := by
  rw [(addsL_perm pg f k).length_eq]; simp

theorem count_step (pg : List Nat) {f g : Nat} (hfg : f ≤ g) (hg : g ∈ pg) : (pg.filter fun k => decide (k < f)).length + 1 ≤ (pg.filter fun k => decide (k < g + 1)).length := by
  have e : pg.filter (fun k => decide (k < f)) = (pg.filter fun k => decide (k < g + 1)).filter (fun k => decide (k < f)) := by
    rw [List.filter_filter]
    apply List.filter_congr
    intro j _
    by_cases hj : j < f
    · have : j < g + 1 := by omega
      simp [hj, this]
    · simp [hj]
  rw [e]
  have : ((pg.filter fun k => decide (k < g + 1)).filter (fun k => decide (k < f))).length < (pg.filter fun k => decide (k < g + 1)).length := by
    rw [List.length_filter_lt_length_iff_exists]
    exact ⟨g, List.mem_filter.2 ⟨hg, by simp⟩, by simp; omega⟩
  omega

set_option maxRecDepth 100000 in
theorem sGrant_err (h : Sep F0 w0 w Ps) (i : Nat) {s : Nat} {S : Slb} (hi : Ps[i]? = some (slabR s S)) (n : Int) {f er : Int} {S' : Slb} (r : S.grant n = (f, er, S')) (hbad : n < 1 ∨ 4096 < n ∨ S.quota < (S.pg.length + n) * 64) :
    Calls Try.prog 14 #[.pointer (some ⟨s, 0, none⟩), .int .i64 n] w fun e w' => e = .returned (.tuple #[.int .i64 f, .int .i64 er]) ∧ Sep F0 w0 w' (Ps.set i (slabR s S')) := by
  obtain ⟨b, p, hM, hS, back⟩ := h.sGet i hi
  have hfin := Lib.hid (back w b p S hM hS (Mod.refl _ w) (fun k hk => .inl hk))
  have hN := hM.there
  have c1 := hM.c1
  have c0 := hM.c0
  unfold Slb.grant at r
  have hq := hS.q1
  have hfit := hS.fit
  have hlen : (0 : Int) ≤ (S.pg.length : Int) ∧ (S.pg.length : Int) ≤ 4096 := by omega
  have hln := fun m ty => hM.len ty (w.drewN m) rfl
  by_cases g1 : n < 1
  · rw [if_pos (.inl g1)] at r
    cases r
    have d1 : decide (n < 1) = true := ltT g1
    clear h hi hM hS back hln g1 hbad
    go_enter Try.func14, Try.ntmps14
    go_wp2
    go_step3
    go_wp2_with ((with_reducible refine hN.mono ?_); rintro e w' ⟨rfl, rfl⟩)
    try rw [Exit.noGoto_ret]
    go_ret2
    exact ⟨rfl, hfin.out⟩
  by_cases g1' : 4096 < n
  · rw [if_pos (.inr g1')] at r
    cases r
    have d1 : decide (n < 1) = false := ltF (by omega)
    have d2 : decide (4096 < n) = true := ltT g1'
    clear h hi hM hS back hln g1 g1' hbad
    go_enter Try.func14, Try.ntmps14
    go_wp2
    go_step3
    go_wp2_with ((with_reducible refine hN.mono ?_); rintro e w' ⟨rfl, rfl⟩)
    try rw [Exit.noGoto_ret]
    go_ret2
    exact ⟨rfl, hfin.out⟩
  rw [if_neg (by omega)] at r
  have d1 : decide (n < 1) = false := ltF (by omega)
  have d2 : decide (4096 < n) = false := ltF (by omega)
  have hn0 : 1 ≤ n := by omega
  have hn1 : n ≤ 4096 := by omega
  have g3 : S.quota < (S.pg.length + n) * 64 := by omega
  rw [if_pos g3] at r
  cases r
  have d3 : decide (S.quota < ((S.pg.length : Int) + n) * 64) = true := ltT g3
  have hfin := Lib.hid (fun w' (hm : Mod No w w') => hfin.out.more hm)
  clear h hi hM hS back g1 g1' g3 hbad
  go_enter Try.func14, Try.ntmps14
  go_wp2
  go_step3
  go_wp2_with ((with_reducible refine hN.mono ?_); rintro e w' ⟨rfl, rfl⟩)
  refine wp_region_quiet_lit (by kernel_rfl) (by kernel_rfl) ?_
  repeat (go_big_quiet_step (fail))
  refine wpQuiet_nil ?_
  intro wq hwq
  obtain ⟨nq, hwq⟩ := hwq
  have hq := Mod.of_drewN hwq
  clear hwq nq
  have HQ := Lib.hid hq
  clear hq
  go_wp2
  try rw [Exit.noGoto_ret]
  go_ret2
  exact ⟨rfl, hfin.out _ HQ.out⟩

/-- What a granting run has come to: k pages from f on are there. -/
structure GrantM (w : World) (s b : Nat) (S : Slb) (p : Nat → Nat) (f k : Nat) (wr : World) (p' : Nat → Nat) : Prop where
  mem : SlabM wr s b S.quota (addsL S.pg f k) p' S.wd
  mod : Mod (SFoot s b S.pg p) w wr
  old : ∀ j ∈ S.pg, p' j = p j
  fresh : ∀ j, f ≤ j → j < f + k → w.heap.size ≤ p' j

set_option maxRecDepth 100000 in
set_option maxHeartbeats 1000000 in
theorem sGrant_ok (h : Sep F0 w0 w Ps) (i : Nat) {s : Nat} {S : Slb} (hi : Ps[i]? = some (slabR s S)) (n : Nat) (h1 : 1 ≤ n) (h2 : n ≤ 4096) (h3 : (S.pg.length + n : Int) * 64 ≤ S.quota) :
    Calls Try.prog 14 #[.pointer (some ⟨s, 0, none⟩), .int .i64 n] w fun e w' => e = .returned (.tuple #[.int .i64 (Slb.least S.pg n), .int .i64 0]) ∧ Sep F0 w0 w' (Ps.set i (slabR s { S with pg := Slb.more S.pg (Slb.least S.pg n) n })) := by
  obtain ⟨b, p, hM, hS, back⟩ := h.sGet i hi
  have hN := hM.there
  have c1 := hM.c1
  have c0 := hM.c0
  have hq := hS.q1
  have hfit := hS.fit
  have hlen : (0 : Int) ≤ (S.pg.length : Int) ∧ (S.pg.length : Int) ≤ 4096 := by omega
  have hln := fun m ty => hM.len ty (w.drewN m) rfl
  have d1 : decide ((n : Int) < 1) = false := ltF (by omega)
  have d2 : decide ((4096 : Int) < (n : Int)) = false := ltF (by omega)
  have d3 : decide (S.quota < ((S.pg.length : Int) + (n : Int)) * 64) = false := ltF (by omega)
  have hlenN : S.pg.length ≤ 4096 := by omega
  have hfb := Lib.hid (fun (f : Nat) (hf : f ≤ n * (S.pg.filter fun k => decide (k < f)).length) => (show f ≤ 16777216 from by
    have h4 := List.length_filter_le (fun k => decide (k < f)) S.pg
    have h5 : n * (S.pg.filter fun k => decide (k < f)).length ≤ 4096 * 4096 := Nat.mul_le_mul h2 (by omega)
    omega))
  have H := Lib.hid (And.intro hM (And.intro back hS))
  clear h hi hM hS back
  go_enter Try.func14, Try.ntmps14
  go_wp2
  go_step3
  go_wp2_with ((with_reducible refine hN.mono ?_); rintro e w' ⟨rfl, rfl⟩)
  refine wp_region_quiet_lit (by kernel_rfl) (by kernel_rfl) ?_
  repeat (go_big_quiet_step (fail))
  refine wpQuiet_nil ?_
  intro wq hwq
  obtain ⟨nq, hwq⟩ := hwq
  have hq := Mod.of_drewN hwq
  clear hwq nq
  have hM2 : SlabM wq s b S.quota S.pg p S.wd := H.out.1.keep fun k hk => hq.block k (H.out.1.lt k hk) (fun x => x)
  have c1 := hM2.c1
  have HQ := Lib.hid (And.intro hq hM2)
  clear hq c0 hM2 hln
  go_wp2_with fail
  go_step3
  go_wp2_with fail
  go_loop [6] (fun fr => ∃ f : Nat, fr = .int .i64 f ∧ f ≤ n * (S.pg.filter fun k => decide (k < f)).length ∧ ∀ g, g < f → Slb.freeB S.pg g n = false) (fun fr => 16777217 - (RowKit.intOf fr).toNat)
  case atStart => exact ⟨0, rfl, Nat.zero_le _, by intro g hg; omega⟩
  case round =>
    obtain ⟨f, rfl, hf, hbef⟩ := hrel
    have hfm := hfb.out f hf
    have HF := Lib.hid (And.intro hf hbef)
    clear hf hbef
    go_wp2_with fail
    go_loop [6, 34] (fun fr ix => fr = .int .i64 f ∧ ∃ k : Nat, ix = .int .i64 k ∧ k ≤ n ∧ ∀ i, i < k → f + i ∉ S.pg) (fun _ ix => n - (RowKit.intOf ix).toNat)
    case atStart => exact ⟨rfl, 0, rfl, Nat.zero_le _, by intro i hi; omega⟩
    case round =>
      obtain ⟨rfl, k, rfl, hk, hno⟩ := hrel
      have HNO := Lib.hid hno
      clear hno
      by_cases hlt : k < n
      · by_cases hin : f + k ∈ S.pg
        · have hl := HQ.out.2.look hin
          rw [Int.natCast_add] at hl
          have HI := Lib.hid hin
          clear hin
          go_wp2
          go_round
          case rel =>
            refine ⟨f + (k + 1), by go_num, ?_, fun g hg => ?_⟩
            · have := count_step S.pg (show f ≤ f + k by omega) HI.out
              have h6 := HF.out.1
              have h7 : n * ((S.pg.filter fun k => decide (k < f)).length + 1) ≤ n * (S.pg.filter fun j => decide (j < f + k + 1)).length := Nat.mul_le_mul_left _ this
              rw [Nat.mul_add] at h7
              show f + (k + 1) ≤ n * (S.pg.filter fun j => decide (j < f + (k + 1))).length
              rw [show f + (k + 1) = f + k + 1 by omega]
              omega
            · rcases Nat.lt_or_ge g f with h8 | h8
              · exact HF.out.2 g h8
              · cases hc : Slb.freeB S.pg g n with
                | false => rfl
                | true =>
                  rcases Slb.freeB_iff.1 hc (f + k) HI.out with h9 | h9
                  · omega
                  · omega
          case measure => simp [RowKit.intOf]; omega
        · have hl := HQ.out.2.miss (n := (f : Int) + (k : Int)) (fun j hj e => hin (by rw [show f + k = j by omega]; exact hj)) (by omega) (by omega)
          have HI := Lib.hid hin
          clear hin
          go_wp2
          go_round
          case rel => exact ⟨rfl, k + 1, by go_num, by omega, fun i hi => by
            rcases Nat.lt_or_ge i k with h8 | h8
            · exact HNO.out i h8
            · rw [show i = k by omega]; exact HI.out⟩
          case measure => simp [RowKit.intOf]; omega
      · obtain rfl : k = n := by omega
        have hfree : Slb.freeB S.pg f k = true := Slb.freeB_iff.2 fun j hj => by
          rcases Nat.lt_or_ge j f with h8 | h8
          · exact .inl h8
          · rcases Nat.lt_or_ge j (f + k) with h9 | h9
            · exact absurd (by rw [show f + (j - f) = j by omega]; exact hj) (HNO.out (j - f) (by omega))
            · exact .inr h9
        have hle : Slb.least S.pg k = f := Slb.least_eq h1 hfree HF.out.2
        have HL := Lib.hid (And.intro hle hfree)
        have hst := Lib.hid (show ∃ p', GrantM w s b S p f 0 wq p' from ⟨p, HQ.out.2, (Mod.refl _ w).trans' (HQ.out.1.mono fun _ _ x => x.elim), fun _ _ => rfl, fun j a c => by omega⟩)
        clear hle hfree HNO HF hfb
        go_wp2_with fail
        go_loopw [52] (fun ix wr => ∃ j : Nat, ix = .int .i64 j ∧ j ≤ k ∧ ∃ p', GrantM w s b S p f j wr p') (fun ix _ => k - (RowKit.intOf ix).toNat)
        case atStart => exact ⟨0, rfl, Nat.zero_le _, hst.out⟩
        case round =>
          obtain ⟨j, rfl, hj, p', hg⟩ := hrel
          clear hst
          by_cases hlt2 : j < k
          · have c1 := hg.mem.c1
            have hnk : f + j ∉ addsL S.pg f j := fun hin => by
              rcases (addsL_mem _ _ _ _).1 hin with hin | hin
              · rcases Slb.freeB_iff.1 HL.out.2 (f + j) hin with h8 | h8 <;> omega
              · omega
            have hz : ∀ m, m < 64 → S.wd (64 * (f + j) + m) = 0 := fun m hm => H.out.2.2.zero _ (by
              rw [show (64 * (f + j) + m) / 64 = f + j by omega]
              intro hin
              exact hnk ((addsL_mem _ _ _ _).2 (.inl hin)))
            have hmm := hg.mem
            have hll : (addsL S.pg f j).length ≤ 1000000 := by rw [addsL_len]; omega
            have HG := Lib.hid (And.intro hg (And.intro hnk hz))
            clear hg
            go_wp2_with (at_mapUpdate; refine wpList_newPage hmm (by rfl) _ _ _ (by rfl) (by rfl) (f + j) ((f : Int) + (j : Int)) (by rfl) (by omega) hnk (by omega) hz hll _ (by rfl) (by first | rfl | simp) _ (by rfl) ?_)
            intro w2 hM3 hm3
            have hfin := Lib.hid (show ∃ p', GrantM w s b S p f (j + 1) w2 p' from by
              obtain ⟨hg, hnk, hz⟩ := HG.out
              refine ⟨_, hM3, hg.mod.trans (hm3.mono fun x _ hx => .inl (.inr (.inl hx))), fun y hy => ?_, fun y hy1 hy2 => ?_⟩
              · have : y ≠ f + j := fun e => hnk (e ▸ (addsL_mem _ _ _ _).2 (.inl hy))
                rw [if_neg this]
                exact hg.old y hy
              · by_cases e : y = f + j
                · rw [if_pos e]; exact hg.mod.size
                · rw [if_neg e]; exact hg.fresh y hy1 (by omega))
            clear hM3 hm3 hmm hnk hz hll c1
            go_wp2
            go_roundw
            case rel => exact ⟨j + 1, by go_num, by omega, hfin.out⟩
            case measure => simp [RowKit.intOf]; omega
          · obtain rfl : j = k := by omega
            have hfin := Lib.hid (show Sep F0 w0 wr (Ps.set i (slabR s { S with pg := Slb.more S.pg (Slb.least S.pg j) j })) from by
              obtain ⟨hM, back, hS⟩ := H.out
              obtain ⟨hle, hfree⟩ := HL.out
              rw [hle]
              have hok : ({ S with pg := Slb.more S.pg f j } : Slb).Ok := Slb.more_ok hS hfree h3 (by omega)
              refine back wr b p' { S with pg := Slb.more S.pg f j } (hg.mem.perm ((addsL_perm _ _ _).trans (Slb.more_perm hfree).symm)) hok hg.mod (fun x hx => ?_)
              rcases hx with rfl | rfl | ⟨y, hy, rfl⟩
              · exact .inl (.inl rfl)
              · exact .inl (.inr (.inl rfl))
              · rcases (Slb.mem_more hfree).1 hy with hy | hy
                · rw [hg.old y hy]; exact .inl (.inr (.inr ⟨y, hy, rfl⟩))
                · exact .inr (hg.fresh y hy.1 hy.2))
            clear hg
            go_wp2
            try rw [Exit.noGoto_ret]
            go_ret2
            exact ⟨by rw [HL.out.1]; rfl, hfin.out⟩
end Go.Proofs.Ytnkdopaajpbjfaa
