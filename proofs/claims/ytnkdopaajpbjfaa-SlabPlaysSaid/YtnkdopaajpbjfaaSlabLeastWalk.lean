/- SlabLeast, walked. No condition. -/
import Derived.Test.YtnkdopaajpbjfaaSlabClaimsWalk
import Derived.Deep.RegionHeld3
import Derived.StillTailTactics
namespace Go.Proofs.Ytnkdopaajpbjfaa
open Go Go.RowKit

variable {F0 : Nat → Prop} {w0 w : World} {Ps : List Res}


/-- free: the least page from which on so many are free. -/
theorem free_call (h : Sep F0 w0 w Ps) (i : Nat) {s : Nat} {S : Slb} (hi : Ps[i]? = some (slabR s S)) (n : Int) (n0 : -9223372036854775808 ≤ n) (n1 : n ≤ 9223372036854775807) :
    Calls Try.prog 17 #[.pointer (some ⟨s, 0, none⟩), .int .i64 n] w fun e w' => ∃ r : Int, e = .returned (.int .i64 r) ∧ w = w' ∧ (1 ≤ n → n ≤ 4096 → r = Slb.least S.pg n.toNat) := by
  by_cases hn : n < 1
  · have d1 : decide ((0 : Int) < n) = false := ltF (by omega)
    have hfin := Lib.hid (show (1 ≤ n → n ≤ 4096 → (0 : Int) = Slb.least S.pg n.toNat) from by omega)
    clear hn h hi
    go_enter Try.func17, Try.ntmps17
    go_wp2_with fail
    go_loopw [5, 6] (fun fr ix wr => fr = .int .i64 0 ∧ ix = .int .i64 0 ∧ wr = w) (fun _ _ _ => 0)
    case atStart => exact ⟨rfl, rfl, rfl⟩
    case round =>
      obtain ⟨rfl, rfl, rfl⟩ := hrel
      go_wp2
      go_ret
      exact ⟨0, rfl, rfl, hfin.out⟩
  obtain ⟨m, hm0, hm1, hmn, hm2⟩ : ∃ m : Nat, 1 ≤ m ∧ m ≤ 4096 ∧ (m : Int) ≤ n ∧ ((m : Int) = n ∨ m = 4096) := by
    by_cases h4 : n ≤ 4096
    · exact ⟨n.toNat, by omega, by omega, by omega, .inl (by omega)⟩
    · exact ⟨4096, by omega, by omega, by omega, .inr rfl⟩
  have hS := h.sOk i hi
  have hlen : S.pg.length ≤ 4096 := by have := hS.fit; have := hS.q1; omega
  obtain ⟨l0, l1, l2⟩ := Slb.least_spec S.pg m hm0
  have hmul : m * S.pg.length ≤ 4096 * 4096 := Nat.mul_le_mul hm1 hlen
  obtain ⟨L, hL⟩ : ∃ L, Slb.least S.pg m = L := ⟨_, rfl⟩
  rw [hL] at l0 l1 l2
  have HL := Lib.hid (And.intro l1 (And.intro l2 (show (1 ≤ n → n ≤ 4096 → (L : Int) = Slb.least S.pg n.toNat) from fun _ h2 => by rw [← hL, show n.toNat = m by omega])))
  have hLb : L ≤ 16777216 := by omega
  have HI := Lib.hid (fun k k0 k1 => h.sIs i hi k k0 k1)
  clear hS hlen l0 l1 l2 hmul hL h hi
  go_enter Try.func17, Try.ntmps17
  go_wp2_with fail
  go_loopw [5, 6] (fun fr ix wr => ∃ f k : Nat, fr = .int .i64 f ∧ ix = .int .i64 k ∧ k ≤ m ∧ (∀ j, j < k → f + j ∉ S.pg) ∧ (∀ g, g < f → Slb.freeB S.pg g m = false) ∧ wr = w) (fun fr ix _ => L + m + 1 - ((RowKit.intOf fr).toNat + (RowKit.intOf ix).toNat))
  case atStart => exact ⟨0, 0, rfl, rfl, Nat.zero_le _, by omega, by omega, rfl⟩
  case round =>
    obtain ⟨f, k, rfl, rfl, hk, h1, h2, rfl⟩ := hrel
    have hfL : f ≤ L := by
      rcases Nat.lt_or_ge L f with h | h
      · have := h2 L h; rw [HL.out.1] at this; cases this
      · exact h
    by_cases hlt : k < m
    · have d1 : decide ((k : Int) < n) = true := ltT (by omega)
      have d2 : decide ((k : Int) < 4096) = true := ltT (by omega)
      have hi := HI.out ((f : Int) + (k : Int)) (by omega) (by omega)
      have H1 := Lib.hid h1
      have H2 := Lib.hid h2
      cases hh : S.has ((f : Int) + (k : Int)) with
      | true =>
        rw [hh] at hi
        have hin : f + k ∈ S.pg := by have := (Slb.has_iff.1 hh).2; rwa [show ((f : Int) + (k : Int)).toNat = f + k by omega] at this
        have H3 := Lib.hid (show ∀ g, g < f + k + 1 → Slb.freeB S.pg g m = false from fun g hg => by
          rcases Nat.lt_or_ge g f with h | h
          · exact h2 g h
          · cases hb : Slb.freeB S.pg g m with
            | false => rfl
            | true => rcases Slb.freeB_iff.1 hb _ hin with h | h <;> omega)
        have hfk : f + k + 1 ≤ L := by
          rcases Nat.lt_or_ge L (f + k + 1) with h | h
          · have := H3.out L h; rw [HL.out.1] at this; cases this
          · exact h
        clear h1 h2 hh hin
        go_wp2_with fail
        go_wp2_with fail
        refine hi.mono ?_
        rintro e w2 ⟨rfl, rfl⟩
        clear hi
        go_wp2
        go_roundw
        case rel => exact ⟨f + k + 1, 0, by go_num, by go_num, by omega, by omega, H3.out, trivial⟩
        case measure => simp [RowKit.intOf]; omega
      | false =>
        rw [hh] at hi
        have hin : f + k ∉ S.pg := fun hin => by
          rw [Slb.has_iff.2 ⟨by omega, by rwa [show ((f : Int) + (k : Int)).toNat = f + k by omega]⟩] at hh; cases hh
        have H3 := Lib.hid (show ∀ j, j < k + 1 → f + j ∉ S.pg from fun j hj => by
          rcases Nat.lt_or_ge j k with h | h
          · exact h1 j h
          · rw [show j = k by omega]; exact hin)
        clear h1 h2 hh hin
        go_wp2_with fail
        go_wp2_with fail
        refine hi.mono ?_
        rintro e w2 ⟨rfl, rfl⟩
        clear hi
        go_wp2
        go_roundw
        case rel => exact ⟨f, k + 1, by go_num, by go_num, by omega, H3.out, H2.out, trivial⟩
        case measure => simp [RowKit.intOf]; omega
    · have hkm : k = m := by omega
      have hfr : Slb.freeB S.pg f m = true := Slb.freeB_iff.2 fun x hx => by
        rcases Nat.lt_or_ge x f with h | h
        · exact .inl h
        · rcases Nat.lt_or_ge x (f + m) with h3 | h3
          · exact absurd (show f + (x - f) ∈ S.pg from by rwa [show f + (x - f) = x by omega]) (h1 (x - f) (by omega))
          · exact .inr h3
      have hfe : f = L := by
        rcases Nat.lt_or_ge f L with h | h
        · rw [HL.out.2.1 f h] at hfr; cases hfr
        · omega
      subst hfe hkm
      have H3 := Lib.hid HL.out.2.2
      have hd : (decide ((k : Int) < n) = true ∧ decide ((k : Int) < 4096) = false) ∨ decide ((k : Int) < n) = false := by
        rcases hm2 with h | h
        · exact .inr (ltF (by omega))
        · by_cases h5 : (k : Int) < n
          · exact .inl ⟨ltT h5, ltF (by omega)⟩
          · exact .inr (ltF (by omega))
      clear h1 h2 hfr hm2 hmn HL
      rcases hd with ⟨d1, d2⟩ | d1
      · go_wp2
        go_ret
        exact ⟨_, rfl, rfl, H3.out⟩
      · go_wp2
        go_ret
        exact ⟨_, rfl, rfl, H3.out⟩
theorem Sep.sPages2 (h : Sep F0 w0 w Ps) (i : Nat) {s : Nat} {S : Slb} (hi : Ps[i]? = some (slabR s S)) :
    Calls Try.prog 15 #[.pointer (some ⟨s, 0, none⟩)] w fun e w' => ∃ sa cap, e = .returned (.slice sa S.pg.length cap) ∧ Sep F0 w0 w' (Ps ++ [intsAt 3 .i64 (.slice sa S.pg.length cap) (S.pg.map fun k : Nat => (k : Int))]) := by
  refine (h.sPages i hi).mono ?_
  rintro e w' ⟨v, rfl, h1⟩
  obtain ⟨sa, cap, rfl⟩ := h1.form Ps.length (by rw [List.getElem?_append_right (Nat.le_refl _), Nat.sub_self]; rfl)
  rw [List.length_map] at h1 ⊢
  exact ⟨sa, cap, rfl, h1⟩


def LeastRel (w : World) (b : Nat) (q : Int) (wr : World) : Prop := ∃ S : Slb, S.quota = q ∧ Sep No w wr [slabR b S]

set_option maxRecDepth 100000 in
set_option maxHeartbeats 1000000 in
theorem least_in (q : Int) (s1 : Option Addr) (len1 cap1 : Nat) (z1 : List (List Int)) (w : World) (hq : 0 ≤ q ∧ q ≤ 2000) (R : Recs w s1 len1 [some .i64, some .i64, some .i64, some .i64, some .u64] z1) (hlen : len1 ≤ 60) :
    Calls Try.prog 4 #[.int .i64 q, .slice s1 len1 cap1] w fun e w' => e = .returned (.bool true) ∧ Below w.heap.size w w' := by
  have d1 : decide (q < 0) = false := ltF (by omega)
  have d2 : decide (2000 < q) = false := ltF (by omega)
  have d3 : decide ((60 : Int) < (len1 : Int)) = false := ltF (by omega)
  have HR := Lib.hid R
  clear R
  go_enter Try.func4, Try.ntmps4
  go_wp2_with fail
  refine ((Sep.nil w).sNew q (by omega) (by omega)).mono ?_
  rintro e w1 ⟨rfl, h⟩
  have h0 : Sep No w w1 [slabR (w.heap.size + 1) (Slb.empty q)] := h
  obtain ⟨b, hb⟩ : ∃ b, w.heap.size + 1 = b := ⟨_, rfl⟩
  rw [hb] at h0 ⊢
  have hst := Lib.hid (show LeastRel w b q w1 from ⟨_, rfl, h0⟩)
  clear h h0 hb
  go_wp2_with fail
  go_loopw [7] (fun i wr => ∃ j : Nat, i = .int .i64 j ∧ j ≤ len1 ∧ LeastRel w b q wr) (fun i _ => len1 - (RowKit.intOf i).toNat)
  case atStart => exact ⟨0, rfl, Nat.zero_le _, hst.out⟩
  case round =>
    obtain ⟨j, rfl, hj, S, hSq, h⟩ := hrel
    clear hst
    by_cases hlt : j < len1
    · obtain ⟨bb, off, rfl, hb, hc⟩ := HR.out.cells (by omega)
      have hzj : z1[j]? = some (z1[j]'(by rw [HR.out.count]; exact hlt)) := List.getElem?_eq_getElem _
      obtain ⟨hrl, hro⟩ := HR.out.ok _ (List.mem_of_getElem? hzj)
      generalize z1[j]'(by rw [HR.out.count]; exact hlt) = r at *
      match r, hrl with
      | [d, a, bx, n, wv], _ =>
      have c0 := h.old (hc j _ hzj 0 _ d rfl rfl)
      have c1 := h.old (hc j _ hzj 1 _ a rfl rfl)
      have c2 := h.old (hc j _ hzj 2 _ bx rfl rfl)
      have c3 := h.old (hc j _ hzj 3 _ n rfl rfl)
      have c4 := h.old (hc j _ hzj 4 _ wv rfl rfl)
      have ha := bounds_i64 (hro 1 _ a rfl rfl)
      have hbx := bounds_i64 (hro 2 _ bx rfl rfl)
      simp only [List.length_cons, List.length_nil, Nat.add_zero, Nat.zero_add, Nat.reduceAdd, fv] at c0 c1 c2 c3 c4
      have hbw : bb < wr.heap.size := by have := h.size; omega
      clear hc hzj hro hb
      have H := Lib.hid (h.pushCells #[.int .i64 d, .int .i64 a, .int .i64 bx, .int .i64 n, .int .u64 wv] 40)
      clear h
      obtain ⟨ob, hob⟩ : ∃ ob, wr.heap.size = ob := ⟨_, rfl⟩
      have hob1 := hob
      by_cases hd : d = 2
      · subst hd
        go_wp2_with fail
        refine (H.out.sRelease 0 rfl bx a ha.1 (er := (S.release bx a).1) (S' := (S.release bx a).2) rfl).mono ?_
        rintro e w2 ⟨rfl, h2⟩
        have h2 := Lib.hid (show Sep No w w2 [slabR b (S.release bx a).2] from Sep.left (Ps := [_]) h2)
        go_wp2
        go_roundw
        case rel => exact ⟨j + 1, by go_num, by omega, _, by rw [Slb.release_quota]; exact hSq, h2.out⟩
        case measure => simp [RowKit.intOf]; omega
      · have hde : (d == 2) = false := beqF hd
        rw [hob] at H
        have cp := H.out.sPages2 0 rfl
        have hS := H.out.sOk 0 rfl
        have hfit := hS.fit
        go_wp2_with fail
        refine cp.mono ?_
        rintro e w2 ⟨sa2, cap2, rfl, h2⟩
        have h2 : Sep No w w2 [slabR b S, cellsAt ob #[.int .i64 d, .int .i64 a, .int .i64 bx, .int .i64 n, .int .u64 wv] 40] := Sep.left (Ps := [_, _]) h2
        have k1 := (h2.cell 1 rfl 1 (v := .int .i64 a) rfl).1
        have cf := free_call h2 0 rfl a ha.1 ha.2
        clear cp H hob hob1
        go_wp2_with fail
        refine cf.mono ?_
        rintro e w3 ⟨r, rfl, rfl, hr⟩
        clear cf c0 c1 c2 c3 c4
        by_cases hbad : a < 1 ∨ 4096 < a
        · have cg := h2.sGrant 0 rfl a (Slb.grant_bad hbad)
          have e1 : decide (q < (S.pg.length : Int) * 64) = false := ltF (by omega)
          have HQ := Lib.hid hSq
          have hb2 : (S.pg.length : Int) ≤ 100 := by omega
          clear h2 hr hbad hS hSq hfit
          go_wp2_with fail
          refine cg.mono ?_
          rintro e w4 ⟨rfl, h4⟩
          have h4 : Sep No w w4 [slabR b S, cellsAt ob #[.int .i64 d, .int .i64 a, .int .i64 bx, .int .i64 n, .int .u64 wv] 40] := h4
          have l1 := (h4.cell 1 rfl 1 (v := .int .i64 a) rfl).1
          clear cg k1
          have e3 : ((S.pg.length : Int) != (S.pg.length : Int)) = false := bneF rfl
          have cp := h4.sPages2 0 rfl
          go_wp2_with fail
          refine cp.mono ?_
          rintro e w5 ⟨sa5, cap5, rfl, h5⟩
          have m1 := (h5.cell 1 rfl 1 (v := .int .i64 a) rfl).1
          have cq := h5.sPages2 0 rfl
          clear cp
          go_wp2_with fail
          refine cq.mono ?_
          rintro e w6 ⟨sa6, cap6, rfl, h6⟩
          have n1 := (h6.cell 1 rfl 1 (v := .int .i64 a) rfl).1
          clear cq
          have HF := Lib.hid (show Sep No w w6 [slabR b S] from Sep.left (Ps := [_]) h6)
          clear h4 h5 h6 m1 n1 l1
          go_wp2
          go_roundw
          case rel => exact ⟨j + 1, by go_num, by omega, _, HQ.out, HF.out⟩
          case measure => simp [RowKit.intOf]; omega
        have ha1 : 1 ≤ a := by omega
        have ha2 : a ≤ 4096 := by omega
        by_cases hqu : q < (S.pg.length + a) * 64
        · have cg := h2.sGrant 0 rfl a (Slb.grant_quo ha1 ha2 (by rw [hSq]; exact hqu))
          have e1 : decide (q < (S.pg.length : Int) * 64) = false := ltF (by omega)
          have e2 : decide (((S.pg.length : Int) + a) * 64 ≤ q) = false := leF (by omega)
          have HQ := Lib.hid hSq
          have hb2 : (S.pg.length : Int) ≤ 100 := by omega
          clear h2 hr hbad hS hSq hqu hfit
          go_wp2_with fail
          refine cg.mono ?_
          rintro e w4 ⟨rfl, h4⟩
          have h4 : Sep No w w4 [slabR b S, cellsAt ob #[.int .i64 d, .int .i64 a, .int .i64 bx, .int .i64 n, .int .u64 wv] 40] := h4
          have l1 := (h4.cell 1 rfl 1 (v := .int .i64 a) rfl).1
          clear cg k1
          have e3 : ((S.pg.length : Int) != (S.pg.length : Int)) = false := bneF rfl
          have cp := h4.sPages2 0 rfl
          go_wp2_with fail
          refine cp.mono ?_
          rintro e w5 ⟨sa5, cap5, rfl, h5⟩
          have m1 := (h5.cell 1 rfl 1 (v := .int .i64 a) rfl).1
          have cq := h5.sPages2 0 rfl
          clear cp
          go_wp2_with fail
          refine cq.mono ?_
          rintro e w6 ⟨sa6, cap6, rfl, h6⟩
          have n1 := (h6.cell 1 rfl 1 (v := .int .i64 a) rfl).1
          clear cq
          have HF := Lib.hid (show Sep No w w6 [slabR b S] from Sep.left (Ps := [_]) h6)
          clear h4 h5 h6 m1 n1 l1
          go_wp2
          go_roundw
          case rel => exact ⟨j + 1, by go_num, by omega, _, HQ.out, HF.out⟩
          case measure => simp [RowKit.intOf]; omega
        obtain ⟨an, rfl⟩ := Int.eq_ofNat_of_zero_le (show 0 ≤ a by omega)
        have hmul : an * S.pg.length ≤ 31 * 31 := Nat.mul_le_mul (by omega) (by omega)
        obtain ⟨S1, r1, l1, q1, r2⟩ := Slb.grant_new hS (n := an) (by omega) (by omega) (by omega) (by omega)
        have cg := h2.sGrant 0 rfl an r1
        have hle := (Slb.least_spec S.pg an (by omega)).1
        obtain ⟨f, hfe⟩ : ∃ f, Slb.least S.pg an = f := ⟨_, rfl⟩
        rw [hfe] at r1 r2 hle cg
        have hr2 : r = (f : Int) := by rw [hr ha1 ha2, Int.toNat_natCast, hfe]
        clear hr hfe
        subst hr2
        have hf : f ≤ 961 := by omega
        have e1 : decide (q < (S1.pg.length : Int) * 64) = false := ltF (by omega)
        have e2 : ((f : Int) != (f : Int)) = false := bneF rfl
        have hb2 : (S1.pg.length : Int) ≤ 100 := by omega
        have han : an ≤ 31 := by omega
        have H2 := Lib.hid (And.intro r2 (show S1.quota = q by omega))
        clear h2 hbad hS hmul r1 l1 q1 r2 hle hSq hqu hfit
        go_wp2_with fail
        refine cg.mono ?_
        rintro e w4 ⟨rfl, h4⟩
        have h4 : Sep No w w4 [slabR b S1, cellsAt ob #[.int .i64 d, .int .i64 an, .int .i64 bx, .int .i64 n, .int .u64 wv] 40] := h4
        have l1 := (h4.cell 1 rfl 1 (v := .int .i64 an) rfl).1
        have cp := h4.sPages2 0 rfl
        clear cg k1
        go_wp2_with fail
        refine cp.mono ?_
        rintro e w5 ⟨sa5, cap5, rfl, h5⟩
        have m1 := (h5.cell 1 rfl 1 (v := .int .i64 an) rfl).1
        clear cp
        have HF := Lib.hid (show Sep No w w5 [slabR b S1, cellsAt ob #[.int .i64 d, .int .i64 an, .int .i64 bx, .int .i64 n, .int .u64 wv] 40] from Sep.left (Ps := [_, _]) h5)
        clear h4 h5 l1 m1
        go_wp2_with fail
        go_loopw [13] (fun kv wx => ∃ (t : Nat) (S2 : Slb), kv = .int .i64 t ∧ f * 64 ≤ t ∧ t ≤ (f + an) * 64 ∧ S2.pg = S1.pg ∧ S2.quota = q ∧ (∀ x, t ≤ x → x < (f + an) * 64 → S2.wd x = 0) ∧ Sep No w wx [slabR b S2, cellsAt ob #[.int .i64 d, .int .i64 an, .int .i64 bx, .int .i64 n, .int .u64 wv] 40]) (fun kv _ => (f + an) * 64 - (RowKit.intOf kv).toNat)
        case atStart => exact ⟨f * 64, S1, by go_num, Nat.le_refl _, by omega, rfl, H2.out.2, fun x h1 h2 => (H2.out.1 x h1 h2).2, HF.out⟩
        case round =>
          obtain ⟨t, S2, rfl, ht1, ht2, hpg, hq2, hz, h⟩ := hrel
          have l1 := (h.cell 1 rfl 1 (v := .int .i64 an) rfl).1
          by_cases hlt2 : t < (f + an) * 64
          · have hlt3 : decide ((t : Int) < ((f : Int) + (an : Int)) * 64) = true := ltT (by omega)
            have he : S2.err (t : Int) = 0 := by rw [Slb.err_pg hpg]; exact (H2.out.1 t ht1 hlt2).1
            have hrd := h.sRead 0 rfl (t : Int) (x := 0) (er := 0) (by rw [Slb.read_in he, Int.toNat_natCast, hz t (Nat.le_refl _) hlt2])
            have hwr := h.sWrite 0 rfl (t : Int) 99 (by omega) (by omega) (Slb.write_in he)
            have HZ := Lib.hid (And.intro hpg (And.intro hq2 hz))
            clear h hpg hq2 hz he
            go_wp2_with fail
            go_wp2_with fail
            refine hrd.mono ?_
            rintro e w6 ⟨rfl, rfl⟩
            clear hrd
            go_wp2_with fail
            refine hwr.mono ?_
            rintro e w6 ⟨rfl, h6⟩
            have H6 := Lib.hid h6
            clear hwr h6 l1
            go_wp2
            go_roundw
            case rel => exact ⟨t + 1, { S2 with wd := fun x => if x = (t : Int).toNat then 99 else S2.wd x }, by go_num, by omega, by omega, HZ.out.1, HZ.out.2.1, fun x h1 h2 => by
              have h3 : ¬ x = (t : Int).toNat := by rw [Int.toNat_natCast]; omega
              show (if x = (t : Int).toNat then (99 : Int) else S2.wd x) = 0
              rw [if_neg h3]
              exact HZ.out.2.2 x (by omega) h2, H6.out⟩
            case measure => simp [RowKit.intOf]; omega
          · have hlt3 : decide ((t : Int) < ((f : Int) + (an : Int)) * 64) = false := ltF (by omega)
            have HZ := Lib.hid (And.intro hq2 (show Sep No w wr [slabR b S2] from Sep.left (Ps := [_]) h))
            clear h hpg hq2 hz
            go_wp2
            go_roundw
            case rel => exact ⟨j + 1, by go_num, by omega, S2, HZ.out.1, HZ.out.2⟩
            case measure => simp [RowKit.intOf]; omega
    · have hje : j = len1 := by omega
      subst hje
      have H := Lib.hid h
      clear HR h
      go_wp2_with fail
      refine (awake_call _).mono ?_
      rintro e w3 ⟨rfl, hm⟩
      go_wp2
      go_ret
      exact ⟨rfl, (H.out.more hm).below⟩

set_option maxRecDepth 100000 in
theorem slabLeast_walk (a0 : Int) (s1 : Option Addr) (len1 cap1 : Nat) (z1 : List (List Int)) (w : World) (_w0 : (Lit.int .i64 a0).wf = true) (R : Recs w s1 len1 [some .i64, some .i64, some .i64, some .i64, some .u64] z1) :
    Calls Try.prog 4 #[.int .i64 a0, .slice s1 len1 cap1] w fun e w' => e = .returned (.bool true) ∧ Below w.heap.size w w' := by
  have ha := (awake_call w).mono (R' := fun e w' => e = .returned (.bool true) ∧ Below w.heap.size w w') fun e w' ⟨he, hm⟩ => ⟨he, hm.below _ (Nat.le_refl _) (fun _ _ x => x)⟩
  by_cases h1 : a0 < 0
  · have d1 : decide (a0 < 0) = true := ltT h1
    clear R h1
    go_enter Try.func4, Try.ntmps4
    go_wp2_with ((with_reducible refine ha.mono ?_); rintro e w' ⟨rfl, hb⟩)
    go_ret
    exact ⟨rfl, hb⟩
  have d1 : decide (a0 < 0) = false := ltF (by omega)
  by_cases h2 : 2000 < a0
  · have d2 : decide (2000 < a0) = true := ltT h2
    clear R h1 h2
    go_enter Try.func4, Try.ntmps4
    go_wp2_with ((with_reducible refine ha.mono ?_); rintro e w' ⟨rfl, hb⟩)
    go_ret
    exact ⟨rfl, hb⟩
  have d2 : decide (2000 < a0) = false := ltF (by omega)
  by_cases hl : len1 ≤ 60
  · exact least_in a0 s1 len1 cap1 z1 w (by omega) R hl
  · have d30 : decide ((60 : Int) < (len1 : Int)) = true := ltT (by omega)
    clear R h1 h2
    go_enter Try.func4, Try.ntmps4
    go_wp2_with ((with_reducible refine ha.mono ?_); rintro e w' ⟨rfl, hb⟩)
    go_ret
    exact ⟨rfl, hb⟩
end Go.Proofs.Ytnkdopaajpbjfaa
