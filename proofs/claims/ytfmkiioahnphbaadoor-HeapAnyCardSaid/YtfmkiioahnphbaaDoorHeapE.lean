/- The plain law of package heap: Audit tells just the arenas of entries; Live tells the blocks. No program stands here. No condition. | The laws' made and awake, walked. Condition: the table of math/bits holds what its initialiser lays. -/
import Derived.Test.YtfmkiioahnphbaaDoorHeapD
set_option linter.unusedVariables false
set_option linter.unusedSimpArgs false
set_option maxRecDepth 100000
namespace Go.Proofs.YtfmkiioahnphbaaDoor
open Go

namespace Slb
variable {S : Slb} {H : List Ent}

theorem and_high {N k : Nat} (hN : N < 18446744073709551616) (hk : k ≤ 64) : N &&& (18446744073709551615 - (2 ^ k - 1)) = 0 ↔ N < 2 ^ k := by
  have hp := Bt.pow_le k hk
  have hpos := Nat.two_pow_pos k
  have hf : 2 ^ k - 1 < 18446744073709551616 := by omega
  constructor
  · intro h
    refine Classical.byContradiction fun hc => ?_
    obtain ⟨i, hi, hb⟩ := Nat.exists_ge_and_testBit_of_ge_two_pow (show 2 ^ k ≤ N by omega)
    have hi64 : i < 64 := Classical.byContradiction fun hge => by
      rw [Bt.testBit_ge hN (by omega)] at hb
      cases hb
    have := congrArg (fun x => x.testBit i) h
    simp only [Nat.testBit_and, Nat.zero_testBit] at this
    rw [Bt.compl_testBit hf, hb, Nat.testBit_two_pow_sub_one] at this
    have h2 : ¬ i < k := by omega
    simp [hi64, h2] at this
  · intro h
    apply Nat.eq_of_testBit_eq
    intro i
    rw [Nat.testBit_and, Bt.compl_testBit hf, Nat.testBit_two_pow_sub_one, Nat.zero_testBit]
    by_cases hi : i < k
    · simp [hi]
    · rw [Nat.testBit_lt_two_pow (Nat.lt_of_lt_of_le h (Nat.pow_le_pow_right (by omega) (by omega)))]
      rfl

theorem fineB_iff {p : Nat} {h : Hd} (h2 : h.kind = 2) (w0 : 0 ≤ h.w) : S.fineB p h = true ↔ h.Good ∧ ∀ k : Nat, k < h.wide → p + k ∈ S.pg := by
  unfold fineB
  simp only [Bool.and_eq_true, decide_eq_true_eq, Bool.not_eq_true', List.all_eq_true, List.mem_range]
  constructor
  · rintro ⟨⟨⟨⟨h1, h3⟩, h4⟩, h5⟩, h6⟩
    have hw : 28 < h.w ∧ h.w ≤ 4000 := by
      unfold cof at h3 h4
      split at h4
      · simp at h4
      · rename_i hc
        rw [if_neg hc] at h3
        split at h3
        · cases h3
        · omega
    rw [cpages_large hw.1 hw.2] at h5 h6
    dsimp only at h5 h6
    have g : h.Good := .inr ⟨h2, hw.1, hw.2, h5.symm⟩
    refine ⟨g, fun k hk => ?_⟩
    have gb := g.big h2
    have := (has_iff.1 (h6 k (by omega))).2
    rw [show ((p : Int) + (k : Int)).toNat = p + k by omega] at this
    exact this
  · rintro ⟨g, hk⟩
    have gb := g.big h2
    rw [cof_large gb.2.1 gb.2.2.1, cpages_large gb.2.1 gb.2.2.1]
    refine ⟨⟨⟨⟨gb.2.2.1, rfl⟩, rfl⟩, gb.2.2.2.symm⟩, fun k hk2 => has_iff.2 ⟨by omega, ?_⟩⟩
    rw [show ((p : Int) + (k : Int)).toNat = p + k by omega]
    exact hk k (by dsimp only at hk2; omega)

theorem okB_small {x : Ent} (h1 : x.2.kind = 1) (w0 : 0 ≤ x.2.w) (w1 : x.2.w < 18446744073709551616) : S.okB x = true ↔ x.2.Good := by
  unfold okB
  rw [if_pos h1]
  simp only [Bool.and_eq_true, decide_eq_true_eq, Bool.not_eq_true', decide_eq_false_iff_not]
  constructor
  · rintro ⟨⟨h2, h3⟩, h4⟩
    have hn : 0 ≤ x.2.n ∧ x.2.n < 8 := Classical.byContradiction fun hc => by
      rw [cslots_out hc] at h2
      cases h2
    have hr := csz_range (show x.2.n.toNat < 8 by omega)
    rw [cslots_in hn.1 hn.2] at h4
    unfold Bt.full at h4
    rw [show Bt.cl ((62 / csz x.2.n.toNat : Nat) : Int) = 62 / csz x.2.n.toNat by unfold Bt.cl; omega] at h4
    have := (and_high (by omega) (by omega)).1 h4
    exact .inl ⟨h1, hn.1, hn.2, by omega, by omega⟩
  · intro g
    have gs := g.small (by omega)
    have hr := csz_range (show x.2.n.toNat < 8 by omega)
    rw [cslots_in gs.2.2.1 gs.2.2.2.1]
    refine ⟨⟨rfl, by omega⟩, ?_⟩
    unfold Bt.full
    rw [show Bt.cl ((62 / csz x.2.n.toNat : Nat) : Int) = 62 / csz x.2.n.toNat by unfold Bt.cl; omega]
    exact (and_high (by omega) (by omega)).2 (by omega)

theorem okB_iff {x : Ent} (w0 : 0 ≤ x.2.w) (w1 : x.2.w < 18446744073709551616) (hp : x.1 ∈ S.pg) : S.okB x = true ↔ x.2.Good ∧ ∀ k : Nat, k < x.2.wide → x.1 + k ∈ S.pg := by
  by_cases h1 : x.2.kind = 1
  · rw [okB_small h1 w0 w1]
    refine ⟨fun g => ⟨g, fun k hk => ?_⟩, fun h => h.1⟩
    have gs := g.small (by omega)
    obtain rfl : k = 0 := by omega
    exact hp
  · unfold okB
    rw [if_neg h1]
    by_cases h2 : x.2.kind = 2
    · rw [decide_eq_true h2, Bool.true_and]
      exact fineB_iff h2 w0
    · rw [decide_eq_false h2, Bool.false_and]
      refine ⟨fun h => (by cases h), fun h => ?_⟩
      rcases h.1.kinds with e | e
      · exact absurd e h1
      · exact absurd e h2

theorem pgsum_flat : ∀ {H : List Ent}, (∀ x ∈ H, x.2.Good) → pgsum H = ((H.flatMap runE).length : Nat)
  | [], _ => rfl
  | x :: H, h => by
    have g := h x (by simp)
    have ih := pgsum_flat (H := H) (fun y hy => h y (by simp [hy]))
    have hl : (runE x).length = x.2.wide := by simp [runE]
    rw [List.flatMap_cons, List.length_append, hl]
    simp only [pgsum]
    rw [ih]
    by_cases h2 : x.2.kind = 2
    · rw [if_pos h2]
      have := g.big h2
      omega
    · rw [if_neg h2]
      have := (g.small h2).2.1
      omega

theorem Rep.audit (R : Rep S H) : S.audit = 0 := by
  have hok : ∀ x ∈ S.heads, S.okB x = true := fun x hx => by
    rw [R.heads] at hx
    have g := R.good x hx
    have gw := g.w64
    exact (okB_iff (by omega) gw.2.1 (R.page hx)).2 ⟨g, fun k hk => (R.mem _).2 ⟨x, hx, by omega, by omega⟩⟩
  rw [audit_sum hok, R.heads, pgsum_flat R.good, if_pos (by rw [R.pg_eq])]

theorem hgo_ord : ∀ (L : List Nat) (nx : Int), L.Pairwise (· < ·) → (∀ y ∈ S.hgo L nx, y.2.Good) → (∀ y ∈ S.hgo L nx, nx ≤ y.1) ∧ (S.hgo L nx).Pairwise (fun x y => x.1 + x.2.wide ≤ y.1)
  | [], _, _, _ => ⟨by simp [hgo], List.Pairwise.nil⟩
  | p :: L, nx, hs, hg => by
    have hs' := List.pairwise_cons.1 hs
    unfold hgo at hg ⊢
    split
    · rename_i hlt
      rw [if_pos hlt] at hg
      exact hgo_ord L nx hs'.2 hg
    · rename_i hlt
      rw [if_neg hlt] at hg
      have gp := hg (p, S.hd p) (by simp)
      have ih := hgo_ord L (if (S.hd p).kind = 2 then (p : Int) + (S.hd p).n else nx) hs'.2 (fun y hy => hg y (List.mem_cons_of_mem _ hy))
      have key : ∀ y ∈ S.hgo L (if (S.hd p).kind = 2 then (p : Int) + (S.hd p).n else nx), p + (S.hd p).wide ≤ y.1 := fun y hy => by
        by_cases h2 : (S.hd p).kind = 2
        · have := ih.1 y hy
          rw [if_pos h2] at this
          have := gp.big h2
          dsimp only at this
          omega
        · have := hs'.1 _ (hgo_mem hy).1
          have := gp.small h2
          dsimp only at this
          omega
      refine ⟨fun y hy => ?_, List.pairwise_cons.2 ⟨key, ih.2⟩⟩
      rcases List.mem_cons.1 hy with rfl | hy
      · dsimp only; omega
      · have := key y hy; omega

theorem hgo_cover : ∀ (L : List Nat) (nx : Int), L.Pairwise (· < ·) → (∀ y ∈ S.hgo L nx, y.2.Good) → ∀ k ∈ L, (k : Int) < nx ∨ ∃ x ∈ S.hgo L nx, x.1 ≤ k ∧ k < x.1 + x.2.wide
  | [], _, _, _, k, hk => by cases hk
  | p :: L, nx, hs, hg, k, hk => by
    have hs' := List.pairwise_cons.1 hs
    unfold hgo at hg ⊢
    split
    · rename_i hlt
      rw [if_pos hlt] at hg
      rcases List.mem_cons.1 hk with rfl | hk
      · exact .inl hlt
      · exact hgo_cover L nx hs'.2 hg k hk
    · rename_i hlt
      rw [if_neg hlt] at hg
      have gp := hg (p, S.hd p) (by simp)
      have gw := gp.wide1
      dsimp only at gw
      rcases List.mem_cons.1 hk with rfl | hk
      · exact .inr ⟨_, List.mem_cons_self .., Nat.le_refl _, by dsimp only; omega⟩
      · rcases hgo_cover L (if (S.hd p).kind = 2 then (p : Int) + (S.hd p).n else nx) hs'.2 (fun y hy => hg y (List.mem_cons_of_mem _ hy)) k hk with h | ⟨x, hx, h⟩
        · by_cases h2 : (S.hd p).kind = 2
          · rw [if_pos h2] at h
            have := gp.big h2
            have := hs'.1 k hk
            dsimp only at *
            exact .inr ⟨_, List.mem_cons_self .., by dsimp only; omega, by dsimp only; omega⟩
          · rw [if_neg h2] at h
            exact .inl h
        · exact .inr ⟨x, List.mem_cons_of_mem _ hx, h⟩

theorem audit_rep (hok : S.Ok) (hlow : ∀ k ∈ S.pg, k < 1048576) (h : S.audit = 0) : Rep S S.heads := by
  have hall : ∀ x ∈ S.heads, S.okB x = true := by
    unfold Slb.audit at h
    split at h
    · rename_i hc
      rw [Bool.and_eq_true, List.all_eq_true] at hc
      exact hc.1
    · cases h
  have hgood : ∀ x ∈ S.heads, x.2.Good ∧ ∀ k : Nat, k < x.2.wide → x.1 + k ∈ S.pg := fun x hx => by
    have hm := heads_mem hx
    have hr := hd_range hok (x.1 : Int)
    rw [← hm.2] at hr
    exact (okB_iff hr.2.2.2.2.1 hr.2.2.2.2.2 hm.1).1 (hall x hx)
  refine ⟨hok, hlow, (hgo_ord S.pg 0 hok.sorted (fun y hy => (hgood y hy).1)).2, fun k => ?_, fun x hx => (heads_mem hx).2.symm, fun x hx => (hgood x hx).1⟩
  constructor
  · intro hk
    rcases hgo_cover (S := S) S.pg 0 hok.sorted (fun y hy => (hgood y hy).1) k hk with h | h
    · omega
    · exact h
  · rintro ⟨x, hx, h1, h2⟩
    have := (hgood x hx).2 (k - x.1) (by omega)
    rw [show x.1 + (k - x.1) = k by omega] at this
    exact this

/-! Live. -/
theorem liveE_blk {x : Ent} (g : x.2.Good) : liveE x = (blkE x).map fun b => (b.1 : Int) := by
  by_cases h2 : x.2.kind = 2
  · unfold liveE
    rw [if_pos h2, blkE_big h2]
    simp
    omega
  · have gs := g.small h2
    have hr := csz_range (show x.2.n.toNat < 8 by omega)
    unfold liveE liveS
    rw [if_neg h2, blkE_small gs.1, List.map_map, cslots_in gs.2.2.1 gs.2.2.2.1]
    dsimp only
    rw [Int.toNat_natCast]
    have hf : (List.range (62 / csz x.2.n.toNat)).filter (fun k : Nat => Bt.has x.2.w.toNat (k : Int)) = (List.range (62 / csz x.2.n.toNat)).filter (fun k : Nat => x.2.w.toNat.testBit k) := List.filter_congr fun k hk => by
      have hk := List.mem_range.1 hk
      have h64 : (k : Int) < 64 := by omega
      simp [Bt.has, h64]
    rw [hf]
    refine List.map_congr_left fun k hk => ?_
    have hk := List.mem_range.1 (List.mem_filter.1 hk).1
    have e := hplace_in (p := x.1) (show x.2.n.toNat < 8 by omega) hk
    rw [show ((x.2.n.toNat : Nat) : Int) = x.2.n by omega] at e
    rw [e]
    rfl
theorem Rep.live (R : Rep S H) : S.live = (blks H).map fun b => (b.1 : Int) := by
  unfold Slb.live blks
  rw [R.heads, List.map_flatMap]
  have : ∀ L : List Ent, (∀ x ∈ L, x.2.Good) → L.flatMap liveE = L.flatMap fun x => (blkE x).map fun b => (b.1 : Int) := fun L hL => by
    induction L with
    | nil => rfl
    | cons x L ih => rw [List.flatMap_cons, List.flatMap_cons, liveE_blk (hL x (by simp)), ih (fun y hy => hL y (by simp [hy]))]
  exact this H R.good

theorem Rep.empty {q : Int} (h0 : 0 ≤ q) (h1 : q ≤ 262144) : Rep (Slb.empty q) [] :=
  ⟨Slb.empty_ok h0 h1, fun k hk => absurd hk (by simp [Slb.empty]), List.Pairwise.nil, fun k => ⟨fun h => absurd h (by simp [Slb.empty]), fun ⟨_, h, _⟩ => absurd h (by simp)⟩, fun x hx => absurd hx (by simp), fun x hx => absurd hx (by simp)⟩
end Slb
end Go.Proofs.YtfmkiioahnphbaaDoor

namespace Go.Proofs.YtfmkiioahnphbaaDoor
open Go Go.RowKit

variable {F0 : Nat → Prop} {w0 w : World} {Ps : List Res}

theorem aw1 : ((Slb.empty 640).halloc 2).1 = 2 ∧ ((Slb.empty 640).halloc 2).2.1 = 0 := by decide +kernel
def awS1 : Slb := ((Slb.empty 640).halloc 2).2.2
theorem aw2 : (awS1.halloc 2).1 = 4 ∧ (awS1.halloc 2).2.1 = 0 := by decide +kernel
def awS2 : Slb := (awS1.halloc 2).2.2
theorem aw3 : (awS2.halloc 28).1 = 66 ∧ (awS2.halloc 28).2.1 = 0 := by decide +kernel
def awS3 : Slb := (awS2.halloc 28).2.2
theorem aw4 : (awS3.halloc 100).1 = 130 ∧ (awS3.halloc 100).2.1 = 0 := by decide +kernel
def awS4 : Slb := (awS3.halloc 100).2.2
def awS5 : Slb := (awS4.hfree 4).2
def awS6 : Slb := (awS5.hfree 66).2
theorem aw7 : (awS6.hslide 130).1 = 66 ∧ (awS6.hslide 130).2.1 = 0 := by decide +kernel

set_option maxRecDepth 100000 in
theorem made_call (h : Sep F0 w0 w Ps) (q : Int) (q0 : 0 ≤ q) (q1 : q ≤ 262144) :
    Calls Tryd.prog 12 #[.int .i64 q] w fun e w' => ∃ s b : Nat, e = .returned (.tuple #[.pointer (some ⟨s, 0, none⟩), .pointer (some ⟨b, 0, none⟩), .bool true]) ∧ Sep F0 w0 w' (Ps ++ [slabR s (Slb.empty q), hpAt b s]) := by
  have hc := h.sNew q q0 q1
  have hau := (Slb.Rep.empty q0 q1).audit
  clear h
  go_enter Tryd.func12, Tryd.ntmps12
  go_wp2_with fail
  refine hc.mono ?_
  rintro e w1 ⟨rfl, h1⟩
  have hn := h1.hNew Ps.length getLast' hau
  clear hc h1
  obtain ⟨s, hs⟩ : ∃ s, w.heap.size + 1 = s := ⟨_, rfl⟩
  rw [hs] at hn ⊢
  clear hs
  go_wp2_with fail
  refine hn.mono ?_
  rintro e w2 ⟨rfl, h2⟩
  obtain ⟨b, hb⟩ : ∃ b, w1.heap.size = b := ⟨_, rfl⟩
  rw [hb] at h2 ⊢
  have H2 : Hid (Sep F0 w0 w2 (Ps ++ [slabR s (Slb.empty q), hpAt b s])) := by
    rw [List.append_assoc] at h2; exact h2
  clear hn h2 hb
  go_wp2
  exact bodyPost_ret (v := .tuple #[.pointer (some ⟨s, 0, none⟩), .pointer (some ⟨b, 0, none⟩), .bool true]) (by simp [results, Tryd.f12, go_sem]) rfl ⟨s, b, rfl, H2.out⟩

set_option maxRecDepth 100000 in
set_option maxHeartbeats 1000000 in
theorem awake_call (w : World) (hT : Tab64 w) : Calls Tryd.prog 4 #[] w fun e w' => e = .returned (.bool true) ∧ Mod No w w' := by
  have HT := Lib.hid hT
  clear hT
  go_enter Tryd.func4, Tryd.ntmps4
  go_wp2_with fail
  refine (made_call (Sep.nil w) 640 (by omega) (by omega)).mono ?_
  rintro e w0 ⟨s, b, rfl, h0⟩
  have h0 : Sep No w w0 [slabR s (Slb.empty 640), hpAt b s] := h0
  have c1 := h0.hAlloc 1 0 (by omega) rfl rfl (HT.out.mod h0.mod) 2 (x := 2) (er := 0) (S' := awS1) (by rw [← aw1.1, ← aw1.2]; rfl)
  clear h0
  go_wp2_with fail
  refine c1.mono ?_
  rintro e w1 ⟨rfl, h⟩
  have h1 : Sep No w w1 [slabR s awS1, hpAt b s] := h
  have c2 := h1.hAlloc 1 0 (by omega) rfl rfl (HT.out.mod h1.mod) 2 (x := 4) (er := 0) (S' := awS2) (by rw [← aw2.1, ← aw2.2]; rfl)
  clear c1 h h1
  go_wp2_with fail
  refine c2.mono ?_
  rintro e w2 ⟨rfl, h⟩
  have h2 : Sep No w w2 [slabR s awS2, hpAt b s] := h
  have c3 := h2.hAlloc 1 0 (by omega) rfl rfl (HT.out.mod h2.mod) 28 (x := 66) (er := 0) (S' := awS3) (by rw [← aw3.1, ← aw3.2]; rfl)
  clear c2 h h2
  go_wp2_with fail
  refine c3.mono ?_
  rintro e w3 ⟨rfl, h⟩
  have h3 : Sep No w w3 [slabR s awS3, hpAt b s] := h
  have c4 := h3.hAlloc 1 0 (by omega) rfl rfl (HT.out.mod h3.mod) 100 (x := 130) (er := 0) (S' := awS4) (by rw [← aw4.1, ← aw4.2]; rfl)
  clear c3 h h3
  go_wp2_with fail
  refine c4.mono ?_
  rintro e w4 ⟨rfl, h⟩
  have h4 : Sep No w w4 [slabR s awS4, hpAt b s] := h
  have c5 := hfree_call h4 1 0 (by omega) rfl rfl 4 (by omega) (by omega) (er := (awS4.hfree 4).1) (S' := awS5) rfl
  generalize (awS4.hfree 4).1 = e5 at *
  clear c4 h h4
  go_wp2_with fail
  refine c5.mono ?_
  rintro e w5 ⟨rfl, h⟩
  have h5 : Sep No w w5 [slabR s awS5, hpAt b s] := h
  have c6 := hfree_call h5 1 0 (by omega) rfl rfl 66 (by omega) (by omega) (er := (awS5.hfree 66).1) (S' := awS6) rfl
  generalize (awS5.hfree 66).1 = e6 at *
  clear c5 h h5
  go_wp2_with fail
  refine c6.mono ?_
  rintro e w6 ⟨rfl, h⟩
  have h6 : Sep No w w6 [slabR s awS6, hpAt b s] := h
  have c7 := h6.hSlide 1 0 (by omega) rfl rfl (HT.out.mod h6.mod) 130 (by omega) (by omega) (fun p k x hf _ => by
    have e : (awS6.find 130).map (fun r => r.2.2.n) = some 2 := by decide +kernel
    rw [hf] at e
    simp only [Option.map_some, Option.some.injEq] at e
    omega)
  rw [aw7.1, aw7.2] at c7
  clear c6 h h6
  go_wp2_with fail
  refine c7.mono ?_
  rintro e w7 ⟨rfl, h⟩
  have H7 := Lib.hid h.mod
  clear c7 h
  go_wp2
  go_ret
  exact ⟨rfl, H7.out⟩
end Go.Proofs.YtfmkiioahnphbaaDoor
