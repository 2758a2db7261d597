/- SlabTwo, walked. No condition. -/
import Derived.Test.YtnkdopaajpbjfaaSlabLeastWalk
namespace Go.Proofs.Ytnkdopaajpbjfaa
open Go Go.RowKit

variable {F0 : Nat → Prop} {w0 w : World} {Ps : List Res}

namespace Slb
/-- What a call answers, as one number, and the arena behind it. -/
def ans (S : Slb) (d a bx n wv : Int) : Int × Slb :=
  if d = 1 then ((S.grant a).1 * 16 + (S.grant a).2.1, (S.grant a).2.2)
  else if d = 2 then S.release bx a
  else if d = 3 then (((S.read a).1 * 16 % 18446744073709551616 + (S.read a).2) % 18446744073709551616, S)
  else if d = 4 then S.write a wv
  else if d = 6 then S.claim a
  else S.move a bx (n.tmod 300)

theorem grant_range {S : Slb} (h : S.Ok) (n : Int) : 0 ≤ (S.grant n).1 ∧ (S.grant n).1 ≤ 16777216 ∧ 0 ≤ (S.grant n).2.1 ∧ (S.grant n).2.1 ≤ 12 := by
  unfold grant
  split
  · simp
  split
  · simp
  · rename_i h1 h2
    obtain ⟨l0, _, _⟩ := least_spec S.pg n.toNat (by omega)
    have hlen : S.pg.length ≤ 4096 := by have := h.fit; have := h.q1; omega
    have hmul : n.toNat * S.pg.length ≤ 4096 * 4096 := Nat.mul_le_mul (by omega) hlen
    refine ⟨?_, ?_, Int.le_refl _, by simp⟩
    · show (0 : Int) ≤ (least S.pg n.toNat : Nat)
      omega
    · show ((least S.pg n.toNat : Nat) : Int) ≤ 16777216
      omega
theorem release_range (S : Slb) (f n : Int) : 0 ≤ (S.release f n).1 ∧ (S.release f n).1 ≤ 12 := by
  unfold release
  split
  · simp
  split <;> simp
theorem claim_range (S : Slb) (n : Int) : 0 ≤ (S.claim n).1 ∧ (S.claim n).1 ≤ 12 := by
  unfold claim
  split
  · simp
  split
  · simp
  split <;> simp
theorem move_range (S : Slb) (t f n : Int) : 0 ≤ (S.move t f n).1 ∧ (S.move t f n).1 ≤ 12 := by
  unfold move
  split
  · simp
  split <;> simp
theorem write_range (S : Slb) (a v : Int) : 0 ≤ (S.write a v).1 ∧ (S.write a v).1 ≤ 12 := by
  unfold write
  split
  · simp
  · rcases err_range S a with h | h | h <;> simp [h]
theorem read_range {S : Slb} (h : S.Ok) (a : Int) : 0 ≤ (S.read a).1 ∧ (S.read a).1 < 18446744073709551616 ∧ 0 ≤ (S.read a).2 ∧ (S.read a).2 ≤ 12 := by
  unfold read
  split
  · have := h.words a.toNat
    exact ⟨this.1, this.2, Int.le_refl _, by simp⟩
  · rcases err_range S a with h | h | h <;> simp [h]
end Slb


set_option maxRecDepth 100000 in
theorem Sep.sAnswer (h : Sep F0 w0 w Ps) (i : Nat) {s : Nat} {S : Slb} (hi : Ps[i]? = some (slabR s S)) (d a bx n wv : Int) (a0 : -9223372036854775808 ≤ a) (a1 : a ≤ 9223372036854775807) (b1 : bx ≤ 9223372036854775807)
    (_n0 : -9223372036854775808 ≤ n) (_n1 : n ≤ 9223372036854775807) (v0 : 0 ≤ wv) (v1 : wv < 18446744073709551616) :
    Calls Try.prog 18 #[.pointer (some ⟨s, 0, none⟩), .agg #[.int .i64 d, .int .i64 a, .int .i64 bx, .int .i64 n, .int .u64 wv]] w fun e w' =>
      e = .returned (.int .u64 (S.ans d a bx n wv).1) ∧ Sep F0 w0 w' (Ps.set i (slabR s (S.ans d a bx n wv).2)) := by
  have hS := h.sOk i hi
  have h := h.alloc (.cells #[.int .i64 d, .int .i64 a, .int .i64 bx, .int .i64 n, .int .u64 wv] 40)
  by_cases d1 : d = 1
  · subst d1
    have e1 : S.ans 1 a bx n wv = ((S.grant a).1 * 16 + (S.grant a).2.1, (S.grant a).2.2) := rfl
    rw [e1]
    have hr := Slb.grant_range hS a
    have hc := h.sGrant i hi a (f := (S.grant a).1) (er := (S.grant a).2.1) (S' := (S.grant a).2.2) rfl
    generalize (S.grant a).1 = f at *
    generalize (S.grant a).2.1 = er at *
    generalize (S.grant a).2.2 = S' at *
    clear h hS e1
    go_enter Try.func18, Try.ntmps18
    go_wp2_with fail
    refine hc.mono ?_
    rintro e w' ⟨rfl, h'⟩
    have H := Lib.hid h'
    clear hc h'
    go_wp2
    go_ret
    exact ⟨rfl, H.out⟩
  have b1' : (d == 1) = false := beqF d1
  by_cases d2 : d = 2
  · subst d2
    have e1 : S.ans 2 a bx n wv = S.release bx a := rfl
    rw [e1]
    have hr := Slb.release_range S bx a
    have hc := h.sRelease i hi bx a a0 (er := (S.release bx a).1) (S' := (S.release bx a).2) rfl
    generalize (S.release bx a).1 = er at *
    generalize (S.release bx a).2 = S' at *
    clear h hS e1
    go_enter Try.func18, Try.ntmps18
    go_wp2_with fail
    refine hc.mono ?_
    rintro e w' ⟨rfl, h'⟩
    have H := Lib.hid h'
    clear hc h'
    go_wp2
    go_ret
    exact ⟨rfl, H.out⟩
  have b2' : (d == 2) = false := beqF d2
  by_cases d3 : d = 3
  · subst d3
    have e1 : S.ans 3 a bx n wv = (((S.read a).1 * 16 % 18446744073709551616 + (S.read a).2) % 18446744073709551616, S) := rfl
    rw [e1]
    have hr := Slb.read_range hS a
    have hc := h.sRead i hi a (x := (S.read a).1) (er := (S.read a).2) rfl
    have hH := Lib.hid (show Sep F0 w0 _ (Ps.set i (slabR s S)) from h.say i hi (fun _ x => x))
    generalize (S.read a).1 = x at *
    generalize (S.read a).2 = er at *
    clear h hS e1
    go_enter Try.func18, Try.ntmps18
    go_wp2_with fail
    refine hc.mono ?_
    rintro e w' ⟨rfl, rfl⟩
    clear hc
    go_wp2
    go_ret
    exact ⟨rfl, hH.out⟩
  have b3' : (d == 3) = false := beqF d3
  by_cases d4 : d = 4
  · subst d4
    have e1 : S.ans 4 a bx n wv = S.write a wv := rfl
    rw [e1]
    have hr := Slb.write_range S a wv
    have hc := h.sWrite i hi a wv v0 v1 (er := (S.write a wv).1) (S' := (S.write a wv).2) rfl
    generalize (S.write a wv).1 = er at *
    generalize (S.write a wv).2 = S' at *
    clear h hS e1
    go_enter Try.func18, Try.ntmps18
    go_wp2_with fail
    refine hc.mono ?_
    rintro e w' ⟨rfl, h'⟩
    have H := Lib.hid h'
    clear hc h'
    go_wp2
    go_ret
    exact ⟨rfl, H.out⟩
  have b4' : (d == 4) = false := beqF d4
  by_cases d6 : d = 6
  · subst d6
    have e1 : S.ans 6 a bx n wv = S.claim a := rfl
    rw [e1]
    have hr := Slb.claim_range S a
    have hc := h.sClaim i hi a a0 a1 (er := (S.claim a).1) (S' := (S.claim a).2) rfl
    generalize (S.claim a).1 = er at *
    generalize (S.claim a).2 = S' at *
    clear h hS e1
    go_enter Try.func18, Try.ntmps18
    go_wp2_with fail
    refine hc.mono ?_
    rintro e w' ⟨rfl, h'⟩
    have H := Lib.hid h'
    clear hc h'
    go_wp2
    go_ret
    exact ⟨rfl, H.out⟩
  have b6' : (d == 6) = false := beqF d6
  have e1 : S.ans d a bx n wv = S.move a bx (n.tmod 300) := by unfold Slb.ans; rw [if_neg d1, if_neg d2, if_neg d3, if_neg d4, if_neg d6]
  rw [e1]
  have hr := Slb.move_range S a bx (n.tmod 300)
  have hc := h.sMove i hi a bx (n.tmod 300) a1 b1 (er := (S.move a bx (n.tmod 300)).1) (S' := (S.move a bx (n.tmod 300)).2) rfl
  generalize (S.move a bx (n.tmod 300)).1 = er at *
  generalize (S.move a bx (n.tmod 300)).2 = S' at *
  clear h hS e1 d1 d2 d3 d4 d6
  go_enter Try.func18, Try.ntmps18
  go_wp2_with fail
  refine hc.mono ?_
  rintro e w' ⟨rfl, h'⟩
  have H := Lib.hid h'
  clear hc h'
  go_wp2
  go_ret
  exact ⟨rfl, H.out⟩

/-- The arena after j calls of a script. -/
def stA (q : Int) (z : List (List Int)) : Nat → Slb
  | 0 => Slb.empty q
  | j + 1 => match z[j]? with
    | some [d, a, bx, n, wv] => ((stA q z j).ans d a bx n wv).2
    | _ => stA q z j
/-- What call j answers. -/
def tlA (q : Int) (z : List (List Int)) (j : Nat) : Int := match z[j]? with
  | some [d, a, bx, n, wv] => ((stA q z j).ans d a bx n wv).1
  | _ => 0
theorem stA_succ {q : Int} {z : List (List Int)} {j : Nat} {d a bx n wv : Int} (h : z[j]? = some [d, a, bx, n, wv]) : stA q z (j + 1) = ((stA q z j).ans d a bx n wv).2 := by rw [stA, h]
theorem tlA_eq {q : Int} {z : List (List Int)} {j : Nat} {d a bx n wv : Int} (h : z[j]? = some [d, a, bx, n, wv]) : tlA q z j = ((stA q z j).ans d a bx n wv).1 := by rw [tlA, h]


set_option maxRecDepth 100000 in
set_option maxHeartbeats 1000000 in
theorem two_in (q : Int) (s1 : Option Addr) (len1 cap1 : Nat) (z1 : List (List Int)) (w : World) (hq : 0 ≤ q ∧ q ≤ 2000) (R : Recs w s1 len1 [some .i64, some .i64, some .i64, some .i64, some .u64] z1) (hlen : len1 ≤ 60) :
    Calls Try.prog 5 #[.int .i64 q, .slice s1 len1 cap1] w fun e w' => e = .returned (.bool true) ∧ Below w.heap.size w w' := by
  have d1 : decide (q < 0) = false := ltF (by omega)
  have d2 : decide (2000 < q) = false := ltF (by omega)
  have d3 : decide ((60 : Int) < (len1 : Int)) = false := ltF (by omega)
  obtain ⟨i0, hi0, hz0, hz1, hz2⟩ := info_parts infoU64
  have HI := Lib.hid (And.intro hi0 (And.intro hz0 (And.intro hz1 hz2)))
  have HR := Lib.hid R
  clear R hi0 hz0 hz1 hz2
  go_enter Try.func5, Try.ntmps5
  go_wp2_with fail
  refine ((Sep.nil w).sNew q (by omega) (by omega)).mono ?_
  rintro e w1 ⟨rfl, h⟩
  have h0 : Sep No w w1 [slabR (w.heap.size + 1) (Slb.empty q)] := h
  obtain ⟨b, hb⟩ : ∃ b, w.heap.size + 1 = b := ⟨_, rfl⟩
  rw [hb] at h0 ⊢
  clear h hb
  go_wp2_with fail
  refine (h0.sNew q (by omega) (by omega)).mono ?_
  rintro e w2 ⟨rfl, h⟩
  obtain ⟨c, hcc⟩ : ∃ c, w1.heap.size + 1 = c := ⟨_, rfl⟩
  rw [hcc] at h ⊢
  have hst := Lib.hid (show Sep No w w2 [slabR b (stA q z1 0), slabR c (Slb.empty q), intsAt 30 .u64 (.slice none 0 0) ((List.range 0).map (tlA q z1))] from h.pushNil _ _)
  clear h h0 hcc
  go_wp2_with fail
  go_loopw [9, 10] (fun l i wr => ∃ j : Nat, i = .int .i64 j ∧ j ≤ len1 ∧ Sep No w wr [slabR b (stA q z1 j), slabR c (Slb.empty q), intsAt 30 .u64 l ((List.range j).map (tlA q z1))]) (fun _ i _ => len1 - (RowKit.intOf i).toNat)
  case atStart => exact ⟨0, rfl, Nat.zero_le _, hst.out⟩
  case round =>
    obtain ⟨j, rfl, hj, h⟩ := hrel
    clear hst
    obtain ⟨sl, cl, rfl⟩ := h.form 2 rfl
    rw [intsAt, List.length_map, List.length_range] at h
    rw [List.length_map, List.length_range]
    by_cases hlt : j < len1
    ·
      obtain ⟨bb, off, rfl, hb, hc⟩ := HR.out.cells (by omega)
      have hzj : z1[j]? = some (z1[j]'(by rw [HR.out.count]; exact hlt)) := List.getElem?_eq_getElem _
      obtain ⟨hrl, hro⟩ := HR.out.ok _ (List.mem_of_getElem? hzj)
      generalize z1[j]'(by rw [HR.out.count]; exact hlt) = r at *
      match r, hrl with
      | [d, a, bx, n, wv], _ =>
      have c0 := h.old (hc j _ hzj 0 _ d rfl rfl)
      have c1 := h.old (hc j _ hzj 1 _ a rfl rfl)
      have c2 := h.old (hc j _ hzj 2 _ bx rfl rfl)
      have c3 := h.old (hc j _ hzj 3 _ n rfl rfl)
      have c4 := h.old (hc j _ hzj 4 _ wv rfl rfl)
      have ha := bounds_i64 (hro 1 _ a rfl rfl)
      have hbx := bounds_i64 (hro 2 _ bx rfl rfl)
      have hn := bounds_i64 (hro 3 _ n rfl rfl)
      have hv := bounds_u64 (hro 4 _ wv rfl rfl)
      simp only [List.length_cons, List.length_nil, Nat.add_zero, Nat.zero_add, Nat.reduceAdd, fv] at c0 c1 c2 c3 c4
      have hS1 := stA_succ (q := q) hzj
      have hT1 := tlA_eq (q := q) hzj
      have hx := h.sAnswer 0 rfl d a bx n wv ha.1 ha.2 hbx.2 hn.1 hn.2 hv.1 (by omega)
      rw [← hS1, ← hT1] at hx
      clear hc hzj hro hb hS1 hT1 h
      go_wp2_with fail
      refine hx.mono ?_
      rintro e w3 ⟨rfl, h3⟩
      have hh : Sep No w w3 [slabR b (stA q z1 (j + 1)), slabR c (Slb.empty q), rowAt 30 1 (.slice sl j cl) j (((List.range j).map (tlA q z1)).map (Value.int .u64))] := h3
      have HX := Lib.hid (show ((List.range j).map (tlA q z1)) ++ [tlA q z1 j] = (List.range (j + 1)).map (tlA q z1) from by rw [List.range_succ, List.map_append]; rfl)
      generalize tlA q z1 j = x at *
      obtain ⟨hi0, hz0, hz1, hz2⟩ := HI.out
      clear h3 hx c0 c1 c2 c3 c4
      go_wp2_with (at_builtin; refine wpList_append_sep1 hh 2 rfl (by rfl) _ _ 44 rfl Try.underlying44 hi0 hz0 hz1 hz2 rfl (by rfl) _ _ (by rfl) (by simp) (by rfl) _ (by unfold maxLen; omega) (by omega) ?_)
      intro gg cg w4 h4
      have hfin := Lib.hid (show Sep No w w4 [slabR b (stA q z1 (j + 1)), slabR c (Slb.empty q), intsAt 30 .u64 (.slice (some ⟨gg, 0, none⟩) (j + 1) cg) ((List.range (j + 1)).map (tlA q z1))] from by
        rw [← HX.out, intsAt, List.map_append, List.length_append, List.length_map, List.length_range, List.map_map]
        exact h4)
      clear hh h4 hi0 hz0 hz1 hz2
      go_wp2
      go_roundw
      case rel => exact ⟨j + 1, by go_num, by omega, hfin.out⟩
      case measure => simp [RowKit.intOf]; omega
    · have hje : j = len1 := by omega
      subst hje
      have hp := h.sPages2 1 rfl
      clear h
      go_wp2_with fail
      refine hp.mono ?_
      rintro e w3 ⟨sa3, cap3, rfl, h3⟩
      have hst := Lib.hid (show Sep No w w3 [slabR b (stA q z1 j), slabR c (stA q z1 0), rowAt 30 1 (.slice sl j cl) j (((List.range j).map (tlA q z1)).map (Value.int .u64))] from Sep.left (Ps := [_, _, _]) h3)
      clear hp h3
      have e0 : (Slb.empty q).pg.length = 0 := rfl
      rw [e0]
      clear e0
      go_wp2_with fail
      go_loopw [11] (fun i wr => ∃ k : Nat, i = .int .i64 k ∧ k ≤ j ∧ Sep No w wr [slabR b (stA q z1 j), slabR c (stA q z1 k), rowAt 30 1 (.slice sl j cl) j (((List.range j).map (tlA q z1)).map (Value.int .u64))]) (fun i _ => j - (RowKit.intOf i).toNat)
      case atStart => exact ⟨0, rfl, Nat.zero_le _, hst.out⟩
      case round =>
        obtain ⟨k, rfl, hk, h⟩ := hrel
        clear hst
        by_cases hlt2 : k < j
        · obtain ⟨bb, off, rfl, hb, hc⟩ := HR.out.cells (by omega)
          have hzj : z1[k]? = some (z1[k]'(by rw [HR.out.count]; exact hlt2)) := List.getElem?_eq_getElem _
          obtain ⟨hrl, hro⟩ := HR.out.ok _ (List.mem_of_getElem? hzj)
          generalize z1[k]'(by rw [HR.out.count]; exact hlt2) = r at *
          match r, hrl with
          | [d, a, bx, n, wv], _ =>
          have c0 := h.old (hc k _ hzj 0 _ d rfl rfl)
          have c1 := h.old (hc k _ hzj 1 _ a rfl rfl)
          have c2 := h.old (hc k _ hzj 2 _ bx rfl rfl)
          have c3 := h.old (hc k _ hzj 3 _ n rfl rfl)
          have c4 := h.old (hc k _ hzj 4 _ wv rfl rfl)
          have C := Lib.hid (And.intro (hc k _ hzj 0 _ d rfl rfl) (And.intro (hc k _ hzj 1 _ a rfl rfl) (And.intro (hc k _ hzj 2 _ bx rfl rfl) (And.intro (hc k _ hzj 3 _ n rfl rfl) (hc k _ hzj 4 _ wv rfl rfl)))))
          have ha := bounds_i64 (hro 1 _ a rfl rfl)
          have hbx := bounds_i64 (hro 2 _ bx rfl rfl)
          have hn := bounds_i64 (hro 3 _ n rfl rfl)
          have hv := bounds_u64 (hro 4 _ wv rfl rfl)
          simp only [List.length_cons, List.length_nil, Nat.add_zero, Nat.zero_add, Nat.reduceAdd, fv] at c0 c1 c2 c3 c4 C
          have hS1 := stA_succ (q := q) hzj
          have hT1 := tlA_eq (q := q) hzj
          obtain ⟨g, rfl, t0, _⟩ := h.item 2 rfl (o := k) (x := .int .u64 (tlA q z1 k)) (by simp [hlt2])
          have hx := h.drew.sAnswer 1 rfl d a bx n wv ha.1 ha.2 hbx.2 hn.1 hn.2 hv.1 (by omega)
          rw [← hS1, ← hT1] at hx
          have hne : (tlA q z1 k != tlA q z1 k) = false := bneF rfl
          have hX := Lib.hid (show ((((List.range j).map (tlA q z1)).map (Value.int .u64))[k]? = some (.int .u64 (tlA q z1 k))) from by simp [hlt2])
          generalize tlA q z1 k = x at *
          clear hc hzj hro hb hS1 hT1 h
          go_wp2_with fail
          go_region_held3 (fun w' => w'.cell? ⟨bb, off + k * 5, none⟩ = some (.int .i64 d) ∧ w'.cell? ⟨bb, off + k * 5 + 1, none⟩ = some (.int .i64 a) ∧ w'.cell? ⟨bb, off + k * 5 + 2, none⟩ = some (.int .i64 bx) ∧ w'.cell? ⟨bb, off + k * 5 + 3, none⟩ = some (.int .i64 n) ∧ w'.cell? ⟨bb, off + k * 5 + 4, none⟩ = some (.int .u64 wv) ∧ w'.cell? ⟨g, k, none⟩ = some (.int .u64 x))
            (first | exact ⟨c0, c1, c2, c3, c4, t0⟩ | exact hold4)
            (first
              | (go_at_call 18; refine hx.mono ?_; rintro e w4 ⟨rfl, h4⟩; obtain ⟨g', hg', t4, _⟩ := h4.item 2 rfl (o := k) hX.out; cases hg'; have hold4 := And.intro (h4.old C.out.1) (And.intro (h4.old C.out.2.1) (And.intro (h4.old C.out.2.2.1) (And.intro (h4.old C.out.2.2.2.1) (And.intro (h4.old C.out.2.2.2.2) t4)))); clear hx))
          have H := Lib.hid h4
          clear h4 hold4 c0 c1 c2 c3 c4 t0
          go_wp2
          go_roundw
          case rel => exact ⟨k + 1, by go_num, by omega, H.out⟩
          case measure => simp [RowKit.intOf]; omega
        · obtain rfl : k = j := by omega
          have hp := h.sPages2 0 rfl
          clear h
          go_wp2_with fail
          refine hp.mono ?_
          rintro e w4 ⟨sa4, cap4, rfl, h4⟩
          have hp2 := h4.sPages2 1 rfl
          clear hp
          go_wp2_with fail
          refine hp2.mono ?_
          rintro e w5 ⟨sa5, cap5, rfl, h5⟩
          have H5 := Lib.hid h5
          have e2 : (((stA q z1 k).pg.length : Int) == ((stA q z1 k).pg.length : Int)) = true := beqT rfl
          clear hp2 h4 h5
          go_wp2_with fail
          refine (awake_call _).mono ?_
          rintro e w6 ⟨rfl, hm⟩
          go_wp2
          go_ret
          exact ⟨rfl, (H5.out.more hm).below⟩

set_option maxRecDepth 100000 in
theorem slabTwo_walk (a0 : Int) (s1 : Option Addr) (len1 cap1 : Nat) (z1 : List (List Int)) (w : World) (_w0 : (Lit.int .i64 a0).wf = true) (R : Recs w s1 len1 [some .i64, some .i64, some .i64, some .i64, some .u64] z1) :
    Calls Try.prog 5 #[.int .i64 a0, .slice s1 len1 cap1] w fun e w' => e = .returned (.bool true) ∧ Below w.heap.size w w' := by
  have ha := (awake_call w).mono (R' := fun e w' => e = .returned (.bool true) ∧ Below w.heap.size w w') fun e w' ⟨he, hm⟩ => ⟨he, hm.below _ (Nat.le_refl _) (fun _ _ x => x)⟩
  by_cases h1 : a0 < 0
  · have d1 : decide (a0 < 0) = true := ltT h1
    clear R h1
    go_enter Try.func5, Try.ntmps5
    go_wp2_with ((with_reducible refine ha.mono ?_); rintro e w' ⟨rfl, hb⟩)
    go_ret
    exact ⟨rfl, hb⟩
  have d1 : decide (a0 < 0) = false := ltF (by omega)
  by_cases h2 : 2000 < a0
  · have d2 : decide (2000 < a0) = true := ltT h2
    clear R h1 h2
    go_enter Try.func5, Try.ntmps5
    go_wp2_with ((with_reducible refine ha.mono ?_); rintro e w' ⟨rfl, hb⟩)
    go_ret
    exact ⟨rfl, hb⟩
  have d2 : decide (2000 < a0) = false := ltF (by omega)
  by_cases hl : len1 ≤ 60
  · exact two_in a0 s1 len1 cap1 z1 w (by omega) R hl
  · have d30 : decide ((60 : Int) < (len1 : Int)) = true := ltT (by omega)
    clear R h1 h2
    go_enter Try.func5, Try.ntmps5
    go_wp2_with ((with_reducible refine ha.mono ?_); rintro e w' ⟨rfl, hb⟩)
    go_ret
    exact ⟨rfl, hb⟩
end Go.Proofs.Ytnkdopaajpbjfaa
