/- HandleRaw, walked. No condition. -/
import Derived.Test.YtbcecgbnnpbjbaaHandleRawOf
import Derived.Test.YtbcecgbnnpbjbaaHandlePlay
import Derived.Laws.StructEq
import Derived.Deep.CutBlock
import Derived.Deep.DeepCutAuto
namespace Go.Proofs.Ytbcecgbnnpbjbaa
open Go Go.RowKit

variable {w0 w : World}

namespace HTbl
theorem open_ml {T T' : HTbl} {a hd er : Int} (h : T.open' a = (hd, er, T')) : T'.most = T.most ∧ T'.last = T.last := by
  unfold open' at h
  split at h
  · cases h; exact ⟨rfl, rfl⟩
  split at h
  · cases h; exact ⟨rfl, rfl⟩
  · cases h; exact ⟨rfl, rfl⟩
theorem close_ml {T T' : HTbl} {n er : Int} (h : T.close n = (er, T')) : T'.most = T.most ∧ T'.last = T.last := by
  unfold close at h
  split at h
  · cases h; unfold shut; split <;> exact ⟨rfl, rfl⟩
  · cases h; exact ⟨rfl, rfl⟩
end HTbl

def toZ : List Int → RSlot
  | [o, g, a] => ⟨o == 1, g, a⟩
  | _ => ⟨false, 0, 0⟩

theorem slots_of {s : Option Addr} {len : Nat} {z : List (List Int)} (R : Recs w s len [none, some .u32, some .i64] z) :
    SlotsIn w s (z.map toZ) ∧ (z.map toZ).length = len ∧ ∀ r ∈ z.map toZ, 0 ≤ r.gen ∧ -9223372036854775808 ≤ r.addr ∧ r.addr ≤ 9223372036854775807 := by
  have form : ∀ r ∈ z, ∃ o g a, r = [o, g, a] ∧ 0 ≤ g ∧ -9223372036854775808 ≤ a ∧ a ≤ 9223372036854775807 := by
    intro r hr
    obtain ⟨hl, ho⟩ := R.ok r hr
    match r, hl with
    | [o, g, a], _ =>
      have h1 := bounds_u32 (ho 1 _ g rfl rfl)
      have h2 := bounds_i64 (ho 2 _ a rfl rfl)
      exact ⟨o, g, a, rfl, h1.1, h2.1, h2.2⟩
  refine ⟨⟨fun j r hj => ?_⟩, by simpa using R.count, fun r hr => ?_⟩
  · rw [List.getElem?_map] at hj
    cases hz : z[j]? with
    | none => rw [hz] at hj; simp at hj
    | some x =>
      rw [hz] at hj
      simp only [Option.map_some, Option.some.injEq] at hj
      subst hj
      have hjl := (List.getElem?_eq_some_iff.1 hz).1
      obtain ⟨b, off, e, hb, hc⟩ := R.cells (by have := R.count; omega)
      obtain ⟨o, g, a, rfl, _⟩ := form x (List.mem_of_getElem? hz)
      have c0 := hc j _ hz 0 _ o rfl rfl
      have c1 := hc j _ hz 1 _ g rfl rfl
      have c2 := hc j _ hz 2 _ a rfl rfl
      exact ⟨b, off, e, hb, c0, c1, c2⟩
  · obtain ⟨x, hx, rfl⟩ := List.mem_map.1 hr
    obtain ⟨o, g, a, rfl, h⟩ := form x hx
    exact h

theorem neq_slot (o : Bool) (g a : Int) (w : World) : (binOp .neq 69 (.agg #[.bool o, .int .u32 g, .int .i64 a]) (.agg #[.bool o, .int .u32 g, .int .i64 a])).run Try.prog w = .ok (.bool false) w := by
  have h : (Op.equalIn 10000 69 (.agg #[.bool o, .int .u32 g, .int .i64 a]) (.agg #[.bool o, .int .u32 g, .int .i64 a])).run Try.prog w = .ok true w := by
    rw [run_equalIn_struct (P := Try.prog) w 9999 69 _ _ (by kernel_rfl) (by kernel_rfl)]
    simp [go_sem]
  simp only [binOp, Op.equal, Op.maxDepth, Sem.run_bind, h, Result.andThen_ok]
  rfl

/-- The first part of the script: one table, the handles that were told. -/
def RawRel (w : World) (tb : Nat) (m last : Int) (j : Nat) (l : Value) (wr : World) : Prop := ∃ (T : HTbl) (sa : Option Addr) (cap : Nat) (ls : List Int), l = .slice sa ls.length cap ∧
  Sep No w wr [tabR tb T, intsAt 31 .u64 (.slice sa ls.length cap) ls] ∧ (∀ x ∈ ls, 0 ≤ x ∧ x < 18446744073709551616) ∧ ls.length ≤ j ∧ T.most = m ∧ T.last = last

/-- The second one: two tables that answer alike. -/
def RawRel2 (w : World) (tb ub : Nat) (j : Nat) (l : Value) (wr : World) : Prop := ∃ (T U : HTbl) (sa : Option Addr) (cap : Nat) (ls : List Int), l = .slice sa ls.length cap ∧
  Sep No w wr [tabR tb T, tabR ub U, intsAt 31 .u64 (.slice sa ls.length cap) ls] ∧ (∀ x ∈ ls, 0 ≤ x ∧ x < 18446744073709551616) ∧ ls.length ≤ 100 + j ∧ HTbl.Twin T U

theorem rawRel_push {tb : Nat} {T : HTbl} {sa : Option Addr} {cap : Nat} {ls : List Int} {x : Int} (h : Sep No w0 w [tabR tb T, rowAt 31 1 (.slice sa (ls.length + 1) cap) (ls.length + 1) (ls.map (Value.int .u64) ++ [.int .u64 x])]) :
    Sep No w0 w [tabR tb T, intsAt 31 .u64 (.slice sa (ls ++ [x]).length cap) (ls ++ [x])] := by
  rw [intsAt, List.map_append, List.length_append]; exact h
theorem rawRel2_push {A B : Res} {sa : Option Addr} {cap : Nat} {ls : List Int} {x : Int} (h : Sep No w0 w [A, B, rowAt 31 1 (.slice sa (ls.length + 1) cap) (ls.length + 1) (ls.map (Value.int .u64) ++ [.int .u64 x])]) :
    Sep No w0 w [A, B, intsAt 31 .u64 (.slice sa (ls ++ [x]).length cap) (ls ++ [x])] := by
  rw [intsAt, List.map_append, List.length_append]; exact h
theorem range_push {ls : List Int} {x : Int} (h : ∀ y ∈ ls, 0 ≤ y ∧ y < 18446744073709551616) (hx : 0 ≤ x ∧ x < 18446744073709551616) : ∀ y ∈ ls ++ [x], 0 ≤ y ∧ y < 18446744073709551616 := by
  intro y hy
  rcases List.mem_append.1 hy with hm | hm
  · exact h y hm
  · simp at hm; subst hm; exact hx



set_option maxRecDepth 100000 in
set_option maxHeartbeats 4000000 in
theorem raw_err (m last : Int) (s2 : Option Addr) (len2 cap2 : Nat) (z2 : List (List Int)) (s3 : Option Addr) (len3 cap3 : Nat) (z3 : List (List Int)) (s4 : Option Addr) (len4 cap4 : Nat) (w : World)
    (hnew : 1 ≤ m ∧ m ≤ 65536 ∧ 1 ≤ last) (hl : last ≤ 4294967295) (R2 : Recs w s2 len2 [some .i64, some .i64, some .i64, some .u64] z2) (R3 : Recs w s3 len3 [some .i64, some .i64, some .i64, some .u64] z3) (h2 : len2 ≤ 100) (h3 : len3 ≤ 100) (h4 : len4 ≤ 100)
    (hof : Calls Try.prog 24 #[.int .i64 m, .int .u32 last, .slice s4 len4 cap4] w fun e w' => (e = .returned (.tuple #[.pointer none, .int .i64 8])) ∧ Sep No w w' []) :
    Calls Try.prog 10 #[.int .i64 m, .int .u32 last, .slice s2 len2 cap2, .slice s3 len3 cap3, .slice s4 len4 cap4] w fun e w' => e = .returned (.bool true) ∧ Below w.heap.size w w' := by
  have d2 : decide ((100 : Int) < (len2 : Int)) = false := ltF (by omega)
  have d3 : decide ((100 : Int) < (len3 : Int)) = false := ltF (by omega)
  have d4 : decide ((100 : Int) < (len4 : Int)) = false := ltF (by omega)
  have HNEW := Lib.hid (fun W => new_ok W m last hnew.1 hnew.2.1 hnew.2.2 hl)
  have H2 := Lib.hid R2
  have H3 := Lib.hid R3
  have HV := Lib.hid (And.intro hnew hl)
  have hrn := fun W => raw_none (none_nil W)
  have HRN := Lib.hid hrn
  obtain ⟨i0, hi0, hz0, hz1, hz2⟩ := info_parts infoHandle2
  have HI := Lib.hid (And.intro hi0 (And.intro hz0 (And.intro hz1 hz2)))
  clear R2 R3 hnew hl hrn hi0 hz0 hz1 hz2
  go_enter Try.func10, Try.ntmps10
  go_wp2_with fail
  refine hof.mono ?_
  rintro e w0 ⟨rfl, h0⟩
  have HW := Lib.hid h0
  clear h0 hof
  go_wp2_with fail
  refine (HRN.out _).mono ?_
  rintro e w1 ⟨rfl, rfl⟩
  clear HRN
  go_wp2_with fail
  refine (HNEW.out _).mono ?_
  rintro e w1 ⟨rfl, hT, hm⟩
  have h : Sep No w w1 [tabR w0.heap.size ⟨m, last, []⟩] := HW.out.tNew hT hm
  obtain ⟨tb, htb⟩ : ∃ tb, w0.heap.size = tb := ⟨_, rfl⟩
  rw [htb] at h
  have hst := Lib.hid (show RawRel w tb m last 0 (.slice none 0 0) w1 from ⟨_, none, 0, [], rfl, h.pushNil _ _, by simp, Nat.le_refl _, rfl, rfl⟩)
  clear hT hm h HNEW HW
  go_wp2_with fail
  clear htb
  go_loopw [17, 18] (fun l i wr => ∃ j : Nat, i = .int .i64 j ∧ j ≤ len2 ∧ RawRel w tb m last j l wr) (fun _ i _ => len2 - (intOf i).toNat)
  case atStart => exact ⟨0, rfl, Nat.zero_le _, hst.out⟩
  case round =>
    obtain ⟨j, rfl, hj, T, sl, cl, ls, rfl, h, hx, hjl, hM, hL⟩ := hrel
    clear hst
    by_cases hlt : j < len2
    · have hlt' := hlt
      obtain ⟨b, off, rfl, hb, hc⟩ := H2.out.cells (by omega)
      have hzj : z2[j]? = some (z2[j]'(by rw [H2.out.count]; exact hlt)) := List.getElem?_eq_getElem _
      obtain ⟨hrl, hro⟩ := H2.out.ok _ (List.mem_of_getElem? hzj)
      generalize z2[j]'(by rw [H2.out.count]; exact hlt) = r at *
      match r, hrl with
      | [d, n, a, hd], _ =>
      have c0 := h.old (hc j _ hzj 0 _ d rfl rfl)
      have c1 := h.old (hc j _ hzj 1 _ n rfl rfl)
      have c2 := h.old (hc j _ hzj 2 _ a rfl rfl)
      have hn := bounds_i64 (hro 1 _ n rfl rfl)
      have ha := bounds_i64 (hro 2 _ a rfl rfl)
      simp only [List.length_cons, List.length_nil, Nat.add_zero, Nat.zero_add, Nat.reduceAdd, fv] at c0 c1 c2
      have hstay := Lib.hid (show RawRel w tb m last (j + 1) (.slice sl ls.length cl) wr from ⟨T, sl, cl, ls, rfl, h, hx, by omega, hM, hL⟩)
      by_cases d1 : d = 1
      · have b1 : (d == 1) = true := beqT d1
        rcases r : T.open' a with ⟨hd', er, T'⟩
        have hrr := HTbl.open_range (h.tabOk 0 rfl) a
        rw [r] at hrr
        have hml := HTbl.open_ml r
        have hc1 := h.tOpen 0 rfl a ha.2 r
        have HX := Lib.hid (And.intro hrr (And.intro hml (And.intro hx (And.intro hjl (And.intro hM hL)))))
        clear hc hzj hro hb d1 hrr hml r hx hjl hM hL h
        by_cases he : er = 0
        · have eb : (er == 0) = true := beqT he
          clear he
          go_wp2_with fail
          refine hc1.mono ?_
          rintro e w2 ⟨rfl, h2⟩
          obtain ⟨hi0, hz0, hz1, hz2⟩ := HI.out
          have hle : ls.length ≤ 1000 := by have := HX.out.2.2.2.1; omega
          go_wp2_with (at_builtin; refine wpList_append_sep1 h2 1 rfl (by rfl) _ _ 29 rfl Try.underlying29 hi0 hz0 hz1 hz2 rfl (by rfl) _ _ (by rfl) (by simp) (by rfl) _ (by unfold maxLen; omega) (by omega) ?_)
          intro gg cg w3 h3
          have hfin := Lib.hid (show RawRel w tb m last (j + 1) (.slice (some ⟨gg, 0, none⟩) (ls.length + 1) cg) w3 from by
            obtain ⟨hrr, hml, hx, hjl, hM, hL⟩ := HX.out
            exact ⟨T', _, cg, ls ++ [hd'], by simp, rawRel_push h3, range_push hx hrr, by simp; omega, hml.1.trans hM, hml.2.trans hL⟩)
          clear h2 h3 hc1 hi0 hz0 hz1 hz2 hstay
          go_wp2
          go_roundw
          case rel => exact ⟨j + 1, by go_num, by omega, hfin.out⟩
          case measure => simp [intOf]; omega
        · have eb : (er == 0) = false := beqF he
          clear he
          go_wp2_with fail
          refine hc1.mono ?_
          rintro e w2 ⟨rfl, h2⟩
          have hfin := Lib.hid (show RawRel w tb m last (j + 1) (.slice sl ls.length cl) w2 from by
            obtain ⟨hrr, hml, hx, hjl, hM, hL⟩ := HX.out
            exact ⟨T', sl, cl, ls, rfl, h2, hx, by omega, hml.1.trans hM, hml.2.trans hL⟩)
          clear h2 hc1 hstay
          go_wp2
          go_roundw
          case rel => exact ⟨j + 1, by go_num, by omega, hfin.out⟩
          case measure => simp [intOf]; omega
      have b1 : (d == 1) = false := beqF d1
      by_cases d4 : d = 4
      · have b4 : (d == 4) = true := beqT d4
        have hc1 := h.nth 1 rfl rfl (by omega) hx n hn
        have HX := Lib.hid (And.intro h (And.intro hx (And.intro hjl (And.intro hM hL))))
        clear hc hzj hro hb d1 d4 hx hjl hM hL h
        go_wp2_with fail
        refine hc1.mono ?_
        rintro e w2 ⟨⟨x, rfl, x0, x1⟩, rfl⟩
        rcases r : T.close x with ⟨er, T'⟩
        have hc2 := HX.out.1.tClose 0 rfl x x0 x1 r
        have HR := Lib.hid (HTbl.close_ml r)
        clear hc1 r
        go_wp2_with fail
        refine hc2.mono ?_
        rintro e w2 ⟨rfl, h2⟩
        have hfin := Lib.hid (show RawRel w tb m last (j + 1) (.slice sl ls.length cl) w2 from by
          obtain ⟨_, hx, hjl, hM, hL⟩ := HX.out
          exact ⟨T', sl, cl, ls, rfl, h2, hx, by omega, HR.out.1.trans hM, HR.out.2.trans hL⟩)
        clear h2 hc2 hstay
        go_wp2
        go_roundw
        case rel => exact ⟨j + 1, by go_num, by omega, hfin.out⟩
        case measure => simp [intOf]; omega
      have b4 : (d == 4) = false := beqF d4
      clear hc hzj hro hb d1 d4 hx hjl hM hL h
      go_wp2
      go_roundw
      case rel => exact ⟨j + 1, by go_num, by omega, hstay.out⟩
      case measure => simp [intOf]; omega
    · obtain rfl : j = len2 := by omega
      have hT := h.tabOk 0 rfl
      have hr := h.tRaw 0 rfl
      have HX := Lib.hid (And.intro h (And.intro hx (And.intro hjl (And.intro hM (And.intro hL hT)))))
      clear hx hjl hM hL hT h
      go_wp2_with fail
      refine hr.mono ?_
      rintro e w2 ⟨sr, cr, rfl, h2⟩
      have hof : Calls Try.prog 24 #[.int .i64 m, .int .u32 last, .slice sr T.raw.length cr] w2 fun e w' => e = .returned (.tuple #[.pointer (some ⟨w2.heap.size, 0, none⟩), .int .i64 0]) ∧ ∃ U, HTbl.Twin T U ∧ Sep No w w' [tabR tb T, tabR w2.heap.size U, intsAt 31 .u64 (.slice sl ls.length cl) ls] := by
        obtain ⟨h, hx, hjl, hM, hL, hT⟩ := HX.out
        have hrok := HTbl.raw_ok hT
        have hrl : T.raw.length = T.l.length := by simp [HTbl.raw]
        have hle := hT.len
        have hm2 := hT.most2
        have h1l := hT.last1
        have h2l := hT.last2
        refine (of_call (SlotsIn.row (h2.row 0 rfl)) cr m last (by omega) (by omega) (fun r hr => by
          obtain ⟨q1, q2⟩ := hrok r hr
          have := HTbl.rOk_iff.1 q1
          omega)).mono fun e w3 hp => ?_
        rcases hp with ⟨_, _, hbad⟩ | ⟨he, h3, _⟩
        · exfalso
          rcases hbad (by omega) with hb | hb
          · exact hb (fun r hr => by rw [← hL]; exact (hrok r hr).1)
          · exact hb HV.out.1
        · refine ⟨he, HTbl.ofRaw m last T.raw, ?_, ((h.more h2.mod).join h3).pick (fun i => if i = 1 then 2 else if i = 2 then 1 else i) (fun i hi => by match i, hi with | 0, _ => rfl | 1, _ => rfl | 2, _ => rfl) (fun i j hi hj hij => by
            simp only [List.length_cons, List.length_nil] at hi hj
            (repeat' split) <;> omega)⟩
          unfold HTbl.Twin
          rw [← hM, ← hL, HTbl.ofRaw_raw hT, HTbl.norm_norm]
      obtain ⟨ub, hub⟩ : ∃ ub, w2.heap.size = ub := ⟨_, rfl⟩
      rw [hub] at hof
      clear hr h2 hub
      go_wp2_with fail
      refine hof.mono ?_
      rintro e w3 ⟨rfl, U, htw, h⟩
      have hst := Lib.hid (show RawRel2 w tb ub 0 (.slice sl ls.length cl) w3 from ⟨T, U, sl, cl, ls, rfl, h, HX.out.2.1, by have := HX.out.2.2.1; omega, htw⟩)
      clear hof htw h HX
      go_wp2_with fail
      go_loopw [17, 23] (fun l i wr => ∃ j : Nat, i = .int .i64 j ∧ j ≤ len3 ∧ RawRel2 w tb ub j l wr) (fun _ i _ => len3 - (intOf i).toNat)
      case atStart => exact ⟨0, rfl, Nat.zero_le _, hst.out⟩
      case round =>
        obtain ⟨j, rfl, hj, T, U, sl, cl, ls, rfl, h, hx, hjl, htw⟩ := hrel
        clear hst
        by_cases hlt : j < len3
        · have hlt' := hlt
          obtain ⟨b, off, rfl, hb, hc⟩ := H3.out.cells (by omega)
          have hzj : z3[j]? = some (z3[j]'(by rw [H3.out.count]; exact hlt)) := List.getElem?_eq_getElem _
          obtain ⟨hrl, hro⟩ := H3.out.ok _ (List.mem_of_getElem? hzj)
          generalize z3[j]'(by rw [H3.out.count]; exact hlt) = r at *
          match r, hrl with
          | [d, n, a, hd], _ =>
          have c0 := h.old (hc j _ hzj 0 _ d rfl rfl)
          have c1 := h.old (hc j _ hzj 1 _ n rfl rfl)
          have c2 := h.old (hc j _ hzj 2 _ a rfl rfl)
          have hn := bounds_i64 (hro 1 _ n rfl rfl)
          have ha := bounds_i64 (hro 2 _ a rfl rfl)
          simp only [List.length_cons, List.length_nil, Nat.add_zero, Nat.zero_add, Nat.reduceAdd, fv] at c0 c1 c2
          have HC := Lib.hid (And.intro (hc j _ hzj 0 _ d rfl rfl) (hc j _ hzj 2 _ a rfl rfl))
          simp only [List.length_cons, List.length_nil, Nat.add_zero, Nat.zero_add, Nat.reduceAdd, fv] at HC
          have hc1 := h.nth 2 rfl rfl (by omega) hx n hn
          have HX := Lib.hid (And.intro h (And.intro hx (And.intro hjl htw)))
          have HA := Lib.hid ha
          clear hc hzj hro hb hx hjl htw h hn ha
          go_wp2_with fail
          refine hc1.mono ?_
          rintro e w4 ⟨⟨x, rfl, x0, x1⟩, rfl⟩
          clear hc1
          go_upto_block 7 with fail
          go_cut [17] (fun l wx => RawRel2 w tb ub (j + 1) l wx)
          case first =>
            as_aux_lemma =>
              obtain ⟨h, hx, hjl, htw⟩ := HX.out
              have ha := HA.out
              by_cases d1 : d = 1
              · have b1 : (d == 1) = true := beqT d1
                rcases r : T.open' a with ⟨hd', er, T'⟩
                rcases rU : U.open' a with ⟨hd2, er2, U'⟩
                have hrr := HTbl.open_range (h.tabOk 0 rfl) a
                have ht := htw.open_ a
                rw [r] at hrr ht
                rw [rU] at ht
                obtain ⟨e1, e2, ht⟩ := ht
                dsimp only at e1 e2 ht
                subst e1 e2
                have hc1 := h.tOpen 0 rfl a ha.2 r
                have HR := Lib.hid (And.intro hrr (And.intro ht rU))
                have q1 : (hd2 != hd2) = false := bneF rfl
                have q2 : (er2 != er2) = false := bneF rfl
                obtain ⟨hi0, hz0, hz1, hz2⟩ := HI.out
                have hle : ls.length ≤ 1000 := by omega
                clear d1 r rU hrr ht h hx hjl htw
                go_wp2_with fail
                refine hc1.mono ?_
                rintro e w5 ⟨rfl, h5⟩
                have c2 := h5.old HC.out.2
                have hc2 := h5.tOpen 1 rfl a ha.2 HR.out.2.2
                clear hc1 h5
                go_wp2_with fail
                refine hc2.mono ?_
                rintro e w6 ⟨rfl, h6⟩
                clear hc2
                go_wp2_with (at_builtin; refine wpList_append_sep1 h6 2 rfl (by rfl) _ _ 29 rfl Try.underlying29 hi0 hz0 hz1 hz2 rfl (by rfl) _ _ (by rfl) (by simp) (by rfl) _ (by unfold maxLen; omega) (by omega) ?_)
                intro gg cg w7 h7
                have hfin := Lib.hid (show RawRel2 w tb ub (j + 1) (.slice (some ⟨gg, 0, none⟩) (ls.length + 1) cg) w7 from by
                  obtain ⟨_, hx, hjl, _⟩ := HX.out
                  exact ⟨T', U', _, cg, ls ++ [hd2], by simp, rawRel2_push h7, range_push hx HR.out.1, by simp; omega, HR.out.2.1⟩)
                clear h6 h7 hi0 hz0 hz1 hz2
                go_wp2_with fail
                go_meet
                case rel => exact hfin.out
              have b1 : (d == 1) = false := beqF d1
              by_cases d3 : d = 3
              · have b3 : (d == 3) = true := beqT d3
                rcases r : T.move x a with ⟨er, T'⟩
                rcases rU : U.move x a with ⟨er2, U'⟩
                have ht := htw.move_ x a
                rw [r, rU] at ht
                obtain ⟨e1, ht⟩ := ht
                dsimp only at e1 ht
                subst e1
                have hc1 := h.drew.tMove 0 rfl x a x0 x1 ha.2 r
                have HR := Lib.hid (And.intro ht rU)
                have q1 : (er2 != er2) = false := bneF rfl
                have hj0 : (0 : Int) ≤ (j : Int) := by omega
                have hj1 : (j : Int) < (len3 : Int) := by omega
                have k2 := h.old HC.out.2
                clear d1 d3 r rU ht h hx hjl htw
                go_wp2_with fail
                go_region_held3 (fun w' => w'.cell? ⟨b, off + j * 4 + 2, none⟩ = some (.int .i64 a)) (first | exact k2 | exact l2 | exact m2)
                  (first
                    | (go_at_call 16; refine hc1.mono ?_; clear hc1; rintro e w5 ⟨rfl, h5⟩; have l2 := h5.old HC.out.2; have hc2 := h5.tMove 1 rfl x a x0 x1 ha.2 HR.out.2)
                    | (go_at_call 16; refine hc2.mono ?_; rintro e w6 ⟨rfl, h6⟩; have m2 := h6.old HC.out.2))
                have hfin := Lib.hid (show RawRel2 w tb ub (j + 1) (.slice sl ls.length cl) w6 from by
                  obtain ⟨_, hx, hjl, _⟩ := HX.out
                  exact ⟨T', U', sl, cl, ls, rfl, h6, hx, by omega, HR.out.1⟩)
                clear h5 h6 hc2 k2 l2 m2
                go_wp2_with fail
                go_meet
                case rel => exact hfin.out
              have b3 : (d == 3) = false := beqF d3
              by_cases d4 : d = 4
              · have b4 : (d == 4) = true := beqT d4
                rcases r : T.close x with ⟨er, T'⟩
                rcases rU : U.close x with ⟨er2, U'⟩
                have ht := htw.close_ x
                rw [r, rU] at ht
                obtain ⟨e1, ht⟩ := ht
                dsimp only at e1 ht
                subst e1
                have hc1 := h.tClose 0 rfl x x0 x1 r
                have HR := Lib.hid (And.intro ht rU)
                have q1 : (er2 != er2) = false := bneF rfl
                clear d1 d3 d4 r rU ht h hx hjl htw
                go_wp2_with fail
                refine hc1.mono ?_
                rintro e w5 ⟨rfl, h5⟩
                have hc2 := h5.tClose 1 rfl x x0 x1 HR.out.2
                clear hc1 h5
                go_wp2_with fail
                refine hc2.mono ?_
                rintro e w6 ⟨rfl, h6⟩
                have hfin := Lib.hid (show RawRel2 w tb ub (j + 1) (.slice sl ls.length cl) w6 from by
                  obtain ⟨_, hx, hjl, _⟩ := HX.out
                  exact ⟨T', U', sl, cl, ls, rfl, h6, hx, by omega, HR.out.1⟩)
                clear hc2 h6
                go_wp2_with fail
                go_meet
                case rel => exact hfin.out
              have b4 : (d == 4) = false := beqF d4
              have hfin := Lib.hid (show RawRel2 w tb ub (j + 1) (.slice sl ls.length cl) wr from ⟨T, U, sl, cl, ls, rfl, h, hx, by omega, htw⟩)
              clear d1 d3 d4 h hx hjl htw
              go_wp2_with fail
              go_meet
              case rel => exact hfin.out
          case rest =>
            as_aux_lemma =>
              obtain ⟨T2, U2, sl2, cl2, ls2, rfl, h2, hx2, hjl2, htw2⟩ := hcut
              have k1 := h2.tAt 0 rfl x x0 x1 (show T2.at' x = ((T2.at' x).1, (T2.at' x).2) from rfl)
              have k2 := h2.tAt 1 rfl x x0 x1 (show U2.at' x = ((T2.at' x).1, (T2.at' x).2) from htw2.at_ x)
              have k3 := h2.tUsed 0 rfl
              have k4 := h2.tUsed 1 rfl
              rw [htw2.len] at k4
              have hfin := Lib.hid (show RawRel2 w tb ub (j + 1) (.slice sl2 ls2.length cl2) wc from ⟨T2, U2, sl2, cl2, ls2, rfl, h2, hx2, hjl2, htw2⟩)
              generalize (T2.at' x).1 = y1 at *
              generalize (T2.at' x).2 = y2 at *
              have q1 : (y1 != y1) = false := bneF rfl
              have q2 : (y2 != y2) = false := bneF rfl
              have q3 : ((T2.l.length : Int) != (T2.l.length : Int)) = false := bneF rfl
              clear h2 hx2 hjl2 htw2 c0 c1 c2
              go_wp2_with fail
              refine k1.mono ?_
              rintro e w5 ⟨rfl, rfl⟩
              clear k1
              go_wp2_with fail
              refine k2.mono ?_
              rintro e w5 ⟨rfl, rfl⟩
              clear k2
              go_wp2_with fail
              refine k3.mono ?_
              rintro e w5 ⟨rfl, rfl⟩
              clear k3
              go_wp2_with fail
              refine k4.mono ?_
              rintro e w5 ⟨rfl, rfl⟩
              clear k4
              go_wp2
              go_roundw
              case rel => exact ⟨j + 1, by go_num, by omega, hfin.out⟩
              case measure => simp [intOf]; omega
        · have H := Lib.hid h
          clear hx h htw
          go_wp2_with fail
          refine (awake_call _).mono ?_
          rintro e w5 ⟨rfl, hm⟩
          have H6 := Lib.hid (H.out.more hm)
          clear hm
          go_wp2
          go_ret
          exact ⟨rfl, H6.out.below⟩

set_option maxRecDepth 100000 in
set_option maxHeartbeats 4000000 in
theorem raw_ok (m last : Int) (s2 : Option Addr) (len2 cap2 : Nat) (z2 : List (List Int)) (s3 : Option Addr) (len3 cap3 : Nat) (z3 : List (List Int)) (s4 : Option Addr) (len4 cap4 : Nat) (zs : List RSlot) (w : World)
    (hnew : 1 ≤ m ∧ m ≤ 65536 ∧ 1 ≤ last) (hl : last ≤ 4294967295) (R2 : Recs w s2 len2 [some .i64, some .i64, some .i64, some .u64] z2) (R3 : Recs w s3 len3 [some .i64, some .i64, some .i64, some .u64] z3) (h2 : len2 ≤ 100) (h3 : len3 ≤ 100) (h4 : len4 ≤ 100)
    (hz : SlotsIn w s4 zs) (hzl : zs.length = len4) (t0 : Nat) (T0 : HTbl) (hraw : T0.raw = zs)
    (hof : Calls Try.prog 24 #[.int .i64 m, .int .u32 last, .slice s4 len4 cap4] w fun e w' => (e = .returned (.tuple #[.pointer (some ⟨t0, 0, none⟩), .int .i64 0])) ∧ Sep No w w' [tabR t0 T0]) :
    Calls Try.prog 10 #[.int .i64 m, .int .u32 last, .slice s2 len2 cap2, .slice s3 len3 cap3, .slice s4 len4 cap4] w fun e w' => e = .returned (.bool true) ∧ Below w.heap.size w w' := by
  have d2 : decide ((100 : Int) < (len2 : Int)) = false := ltF (by omega)
  have d3 : decide ((100 : Int) < (len3 : Int)) = false := ltF (by omega)
  have d4 : decide ((100 : Int) < (len4 : Int)) = false := ltF (by omega)
  have HNEW := Lib.hid (fun W => new_ok W m last hnew.1 hnew.2.1 hnew.2.2 hl)
  have H2 := Lib.hid R2
  have H3 := Lib.hid R3
  have HV := Lib.hid (And.intro hnew hl)
  have HZ := Lib.hid (And.intro hz (And.intro hzl hraw))
  have HNQ := Lib.hid neq_slot
  obtain ⟨i0, hi0, hz0, hz1, hz2⟩ := info_parts infoHandle2
  have HI := Lib.hid (And.intro hi0 (And.intro hz0 (And.intro hz1 hz2)))
  clear R2 R3 hnew hl hi0 hz0 hz1 hz2 hz hzl hraw
  go_enter Try.func10, Try.ntmps10
  go_wp2_with fail
  refine hof.mono ?_
  rintro e w0 ⟨rfl, h0⟩
  have hr := h0.tRaw 0 rfl
  rw [HZ.out.2.2] at hr
  have HW := Lib.hid h0
  clear h0 hof
  go_wp2_with fail
  refine hr.mono ?_
  rintro e w1 ⟨sr, cr, rfl, h1⟩
  have HS := Lib.hid (show Sep No w w1 [] ∧ SlotsIn w1 sr zs from ⟨(HW.out.join h1).pick (fun i => i) (by simp) (by simp), SlotsIn.row (h1.row 0 rfl)⟩)
  rw [HZ.out.2.1]
  have q0 : ((len4 : Int) != (len4 : Int)) = false := bneF rfl
  clear hr h1 HW
  go_wp2_with fail
  go_loopw [14] (fun i wr => ∃ j : Nat, i = .int .i64 j ∧ j ≤ len4 ∧ Sep No w wr [] ∧ SlotsIn wr sr zs) (fun i _ => len4 - (intOf i).toNat)
  case atStart => exact ⟨0, rfl, Nat.zero_le _, HS.out⟩
  case round =>
    obtain ⟨j, rfl, hj, h0, hs⟩ := hrel
    clear HS
    by_cases hlt : j < len4
    · have hzj := List.getElem?_eq_getElem (show j < zs.length by rw [HZ.out.2.1]; exact hlt)
      obtain ⟨b, off, rfl, hb, c0, c1, c2⟩ := hs.cells j _ hzj
      obtain ⟨b', off', rfl, hb', e0, e1, e2⟩ := HZ.out.1.cells j _ hzj
      have e0 := h0.old e0
      have e1 := h0.old e1
      have e2 := h0.old e2
      have hj0 : (0 : Int) ≤ (j : Int) := by omega
      have hj1 : (j : Int) < (len4 : Int) := by omega
      have HS := Lib.hid (And.intro h0 hs)
      generalize zs[j]'(by rw [HZ.out.2.1]; exact hlt) = z at *
      have hne := fun W => HNQ.out z.op z.gen z.addr W
      clear hzj h0 hs
      go_wp2_with fail
      refine wp_region_quiet_lit (by kernel_rfl) (by kernel_rfl) ?_
      repeat (go_big_quiet_step (fail))
      refine wpQuiet_nil ?_
      intro wq hwq
      obtain ⟨nq, hwq⟩ := hwq
      have hq := Mod.of_drewN hwq
      clear hwq nq
      have H4 := Lib.hid (And.intro (HS.out.1.more hq) (HS.out.2.more hq))
      clear hq hne
      go_wp2
      go_roundw
      case rel => exact ⟨j + 1, by go_num, by omega, H4.out⟩
      case measure => simp [intOf]; omega
    · have HW := Lib.hid h0
      clear h0 hs HZ HNQ q0
      go_wp2_with fail
      refine (HNEW.out _).mono ?_
      rintro e w1 ⟨rfl, hT, hm⟩
      have h : Sep No w w1 [tabR wr.heap.size ⟨m, last, []⟩] := HW.out.tNew hT hm
      obtain ⟨tb, htb⟩ : ∃ tb, wr.heap.size = tb := ⟨_, rfl⟩
      rw [htb] at h
      have hst := Lib.hid (show RawRel w tb m last 0 (.slice none 0 0) w1 from ⟨_, none, 0, [], rfl, h.pushNil _ _, by simp, Nat.le_refl _, rfl, rfl⟩)
      clear hT hm h HNEW HW
      go_wp2_with fail
      clear htb
      go_loopw [17, 18] (fun l i wr => ∃ j : Nat, i = .int .i64 j ∧ j ≤ len2 ∧ RawRel w tb m last j l wr) (fun _ i _ => len2 - (intOf i).toNat)
      case atStart => exact ⟨0, rfl, Nat.zero_le _, hst.out⟩
      case round =>
        obtain ⟨j, rfl, hj, T, sl, cl, ls, rfl, h, hx, hjl, hM, hL⟩ := hrel
        clear hst
        by_cases hlt : j < len2
        · have hlt' := hlt
          obtain ⟨b, off, rfl, hb, hc⟩ := H2.out.cells (by omega)
          have hzj : z2[j]? = some (z2[j]'(by rw [H2.out.count]; exact hlt)) := List.getElem?_eq_getElem _
          obtain ⟨hrl, hro⟩ := H2.out.ok _ (List.mem_of_getElem? hzj)
          generalize z2[j]'(by rw [H2.out.count]; exact hlt) = r at *
          match r, hrl with
          | [d, n, a, hd], _ =>
          have c0 := h.old (hc j _ hzj 0 _ d rfl rfl)
          have c1 := h.old (hc j _ hzj 1 _ n rfl rfl)
          have c2 := h.old (hc j _ hzj 2 _ a rfl rfl)
          have hn := bounds_i64 (hro 1 _ n rfl rfl)
          have ha := bounds_i64 (hro 2 _ a rfl rfl)
          simp only [List.length_cons, List.length_nil, Nat.add_zero, Nat.zero_add, Nat.reduceAdd, fv] at c0 c1 c2
          have hstay := Lib.hid (show RawRel w tb m last (j + 1) (.slice sl ls.length cl) wr from ⟨T, sl, cl, ls, rfl, h, hx, by omega, hM, hL⟩)
          by_cases d1 : d = 1
          · have b1 : (d == 1) = true := beqT d1
            rcases r : T.open' a with ⟨hd', er, T'⟩
            have hrr := HTbl.open_range (h.tabOk 0 rfl) a
            rw [r] at hrr
            have hml := HTbl.open_ml r
            have hc1 := h.tOpen 0 rfl a ha.2 r
            have HX := Lib.hid (And.intro hrr (And.intro hml (And.intro hx (And.intro hjl (And.intro hM hL)))))
            clear hc hzj hro hb d1 hrr hml r hx hjl hM hL h
            by_cases he : er = 0
            · have eb : (er == 0) = true := beqT he
              clear he
              go_wp2_with fail
              refine hc1.mono ?_
              rintro e w2 ⟨rfl, h2⟩
              obtain ⟨hi0, hz0, hz1, hz2⟩ := HI.out
              have hle : ls.length ≤ 1000 := by have := HX.out.2.2.2.1; omega
              go_wp2_with (at_builtin; refine wpList_append_sep1 h2 1 rfl (by rfl) _ _ 29 rfl Try.underlying29 hi0 hz0 hz1 hz2 rfl (by rfl) _ _ (by rfl) (by simp) (by rfl) _ (by unfold maxLen; omega) (by omega) ?_)
              intro gg cg w3 h3
              have hfin := Lib.hid (show RawRel w tb m last (j + 1) (.slice (some ⟨gg, 0, none⟩) (ls.length + 1) cg) w3 from by
                obtain ⟨hrr, hml, hx, hjl, hM, hL⟩ := HX.out
                exact ⟨T', _, cg, ls ++ [hd'], by simp, rawRel_push h3, range_push hx hrr, by simp; omega, hml.1.trans hM, hml.2.trans hL⟩)
              clear h2 h3 hc1 hi0 hz0 hz1 hz2 hstay
              go_wp2
              go_roundw
              case rel => exact ⟨j + 1, by go_num, by omega, hfin.out⟩
              case measure => simp [intOf]; omega
            · have eb : (er == 0) = false := beqF he
              clear he
              go_wp2_with fail
              refine hc1.mono ?_
              rintro e w2 ⟨rfl, h2⟩
              have hfin := Lib.hid (show RawRel w tb m last (j + 1) (.slice sl ls.length cl) w2 from by
                obtain ⟨hrr, hml, hx, hjl, hM, hL⟩ := HX.out
                exact ⟨T', sl, cl, ls, rfl, h2, hx, by omega, hml.1.trans hM, hml.2.trans hL⟩)
              clear h2 hc1 hstay
              go_wp2
              go_roundw
              case rel => exact ⟨j + 1, by go_num, by omega, hfin.out⟩
              case measure => simp [intOf]; omega
          have b1 : (d == 1) = false := beqF d1
          by_cases d4 : d = 4
          · have b4 : (d == 4) = true := beqT d4
            have hc1 := h.nth 1 rfl rfl (by omega) hx n hn
            have HX := Lib.hid (And.intro h (And.intro hx (And.intro hjl (And.intro hM hL))))
            clear hc hzj hro hb d1 d4 hx hjl hM hL h
            go_wp2_with fail
            refine hc1.mono ?_
            rintro e w2 ⟨⟨x, rfl, x0, x1⟩, rfl⟩
            rcases r : T.close x with ⟨er, T'⟩
            have hc2 := HX.out.1.tClose 0 rfl x x0 x1 r
            have HR := Lib.hid (HTbl.close_ml r)
            clear hc1 r
            go_wp2_with fail
            refine hc2.mono ?_
            rintro e w2 ⟨rfl, h2⟩
            have hfin := Lib.hid (show RawRel w tb m last (j + 1) (.slice sl ls.length cl) w2 from by
              obtain ⟨_, hx, hjl, hM, hL⟩ := HX.out
              exact ⟨T', sl, cl, ls, rfl, h2, hx, by omega, HR.out.1.trans hM, HR.out.2.trans hL⟩)
            clear h2 hc2 hstay
            go_wp2
            go_roundw
            case rel => exact ⟨j + 1, by go_num, by omega, hfin.out⟩
            case measure => simp [intOf]; omega
          have b4 : (d == 4) = false := beqF d4
          clear hc hzj hro hb d1 d4 hx hjl hM hL h
          go_wp2
          go_roundw
          case rel => exact ⟨j + 1, by go_num, by omega, hstay.out⟩
          case measure => simp [intOf]; omega
        · obtain rfl : j = len2 := by omega
          have hT := h.tabOk 0 rfl
          have hr := h.tRaw 0 rfl
          have HX := Lib.hid (And.intro h (And.intro hx (And.intro hjl (And.intro hM (And.intro hL hT)))))
          clear hx hjl hM hL hT h
          go_wp2_with fail
          refine hr.mono ?_
          rintro e w2 ⟨sr, cr, rfl, h2⟩
          have hof : Calls Try.prog 24 #[.int .i64 m, .int .u32 last, .slice sr T.raw.length cr] w2 fun e w' => e = .returned (.tuple #[.pointer (some ⟨w2.heap.size, 0, none⟩), .int .i64 0]) ∧ ∃ U, HTbl.Twin T U ∧ Sep No w w' [tabR tb T, tabR w2.heap.size U, intsAt 31 .u64 (.slice sl ls.length cl) ls] := by
            obtain ⟨h, hx, hjl, hM, hL, hT⟩ := HX.out
            have hrok := HTbl.raw_ok hT
            have hrl : T.raw.length = T.l.length := by simp [HTbl.raw]
            have hle := hT.len
            have hm2 := hT.most2
            have h1l := hT.last1
            have h2l := hT.last2
            refine (of_call (SlotsIn.row (h2.row 0 rfl)) cr m last (by omega) (by omega) (fun r hr => by
              obtain ⟨q1, q2⟩ := hrok r hr
              have := HTbl.rOk_iff.1 q1
              omega)).mono fun e w3 hp => ?_
            rcases hp with ⟨_, _, hbad⟩ | ⟨he, h3, _⟩
            · exfalso
              rcases hbad (by omega) with hb | hb
              · exact hb (fun r hr => by rw [← hL]; exact (hrok r hr).1)
              · exact hb HV.out.1
            · refine ⟨he, HTbl.ofRaw m last T.raw, ?_, ((h.more h2.mod).join h3).pick (fun i => if i = 1 then 2 else if i = 2 then 1 else i) (fun i hi => by match i, hi with | 0, _ => rfl | 1, _ => rfl | 2, _ => rfl) (fun i j hi hj hij => by
                simp only [List.length_cons, List.length_nil] at hi hj
                (repeat' split) <;> omega)⟩
              unfold HTbl.Twin
              rw [← hM, ← hL, HTbl.ofRaw_raw hT, HTbl.norm_norm]
          obtain ⟨ub, hub⟩ : ∃ ub, w2.heap.size = ub := ⟨_, rfl⟩
          rw [hub] at hof
          clear hr h2 hub
          go_wp2_with fail
          refine hof.mono ?_
          rintro e w3 ⟨rfl, U, htw, h⟩
          have hst := Lib.hid (show RawRel2 w tb ub 0 (.slice sl ls.length cl) w3 from ⟨T, U, sl, cl, ls, rfl, h, HX.out.2.1, by have := HX.out.2.2.1; omega, htw⟩)
          clear hof htw h HX
          go_wp2_with fail
          go_loopw [17, 23] (fun l i wr => ∃ j : Nat, i = .int .i64 j ∧ j ≤ len3 ∧ RawRel2 w tb ub j l wr) (fun _ i _ => len3 - (intOf i).toNat)
          case atStart => exact ⟨0, rfl, Nat.zero_le _, hst.out⟩
          case round =>
            obtain ⟨j, rfl, hj, T, U, sl, cl, ls, rfl, h, hx, hjl, htw⟩ := hrel
            clear hst
            by_cases hlt : j < len3
            · have hlt' := hlt
              obtain ⟨b, off, rfl, hb, hc⟩ := H3.out.cells (by omega)
              have hzj : z3[j]? = some (z3[j]'(by rw [H3.out.count]; exact hlt)) := List.getElem?_eq_getElem _
              obtain ⟨hrl, hro⟩ := H3.out.ok _ (List.mem_of_getElem? hzj)
              generalize z3[j]'(by rw [H3.out.count]; exact hlt) = r at *
              match r, hrl with
              | [d, n, a, hd], _ =>
              have c0 := h.old (hc j _ hzj 0 _ d rfl rfl)
              have c1 := h.old (hc j _ hzj 1 _ n rfl rfl)
              have c2 := h.old (hc j _ hzj 2 _ a rfl rfl)
              have hn := bounds_i64 (hro 1 _ n rfl rfl)
              have ha := bounds_i64 (hro 2 _ a rfl rfl)
              simp only [List.length_cons, List.length_nil, Nat.add_zero, Nat.zero_add, Nat.reduceAdd, fv] at c0 c1 c2
              have HC := Lib.hid (And.intro (hc j _ hzj 0 _ d rfl rfl) (hc j _ hzj 2 _ a rfl rfl))
              simp only [List.length_cons, List.length_nil, Nat.add_zero, Nat.zero_add, Nat.reduceAdd, fv] at HC
              have hc1 := h.nth 2 rfl rfl (by omega) hx n hn
              have HX := Lib.hid (And.intro h (And.intro hx (And.intro hjl htw)))
              have HA := Lib.hid ha
              clear hc hzj hro hb hx hjl htw h hn ha
              go_wp2_with fail
              refine hc1.mono ?_
              rintro e w4 ⟨⟨x, rfl, x0, x1⟩, rfl⟩
              clear hc1
              go_upto_block 7 with fail
              go_cut [17] (fun l wx => RawRel2 w tb ub (j + 1) l wx)
              case first =>
                as_aux_lemma =>
                  obtain ⟨h, hx, hjl, htw⟩ := HX.out
                  have ha := HA.out
                  by_cases d1 : d = 1
                  · have b1 : (d == 1) = true := beqT d1
                    rcases r : T.open' a with ⟨hd', er, T'⟩
                    rcases rU : U.open' a with ⟨hd2, er2, U'⟩
                    have hrr := HTbl.open_range (h.tabOk 0 rfl) a
                    have ht := htw.open_ a
                    rw [r] at hrr ht
                    rw [rU] at ht
                    obtain ⟨e1, e2, ht⟩ := ht
                    dsimp only at e1 e2 ht
                    subst e1 e2
                    have hc1 := h.tOpen 0 rfl a ha.2 r
                    have HR := Lib.hid (And.intro hrr (And.intro ht rU))
                    have q1 : (hd2 != hd2) = false := bneF rfl
                    have q2 : (er2 != er2) = false := bneF rfl
                    obtain ⟨hi0, hz0, hz1, hz2⟩ := HI.out
                    have hle : ls.length ≤ 1000 := by omega
                    clear d1 r rU hrr ht h hx hjl htw
                    go_wp2_with fail
                    refine hc1.mono ?_
                    rintro e w5 ⟨rfl, h5⟩
                    have c2 := h5.old HC.out.2
                    have hc2 := h5.tOpen 1 rfl a ha.2 HR.out.2.2
                    clear hc1 h5
                    go_wp2_with fail
                    refine hc2.mono ?_
                    rintro e w6 ⟨rfl, h6⟩
                    clear hc2
                    go_wp2_with (at_builtin; refine wpList_append_sep1 h6 2 rfl (by rfl) _ _ 29 rfl Try.underlying29 hi0 hz0 hz1 hz2 rfl (by rfl) _ _ (by rfl) (by simp) (by rfl) _ (by unfold maxLen; omega) (by omega) ?_)
                    intro gg cg w7 h7
                    have hfin := Lib.hid (show RawRel2 w tb ub (j + 1) (.slice (some ⟨gg, 0, none⟩) (ls.length + 1) cg) w7 from by
                      obtain ⟨_, hx, hjl, _⟩ := HX.out
                      exact ⟨T', U', _, cg, ls ++ [hd2], by simp, rawRel2_push h7, range_push hx HR.out.1, by simp; omega, HR.out.2.1⟩)
                    clear h6 h7 hi0 hz0 hz1 hz2
                    go_wp2_with fail
                    go_meet
                    case rel => exact hfin.out
                  have b1 : (d == 1) = false := beqF d1
                  by_cases d3 : d = 3
                  · have b3 : (d == 3) = true := beqT d3
                    rcases r : T.move x a with ⟨er, T'⟩
                    rcases rU : U.move x a with ⟨er2, U'⟩
                    have ht := htw.move_ x a
                    rw [r, rU] at ht
                    obtain ⟨e1, ht⟩ := ht
                    dsimp only at e1 ht
                    subst e1
                    have hc1 := h.drew.tMove 0 rfl x a x0 x1 ha.2 r
                    have HR := Lib.hid (And.intro ht rU)
                    have q1 : (er2 != er2) = false := bneF rfl
                    have hj0 : (0 : Int) ≤ (j : Int) := by omega
                    have hj1 : (j : Int) < (len3 : Int) := by omega
                    have k2 := h.old HC.out.2
                    clear d1 d3 r rU ht h hx hjl htw
                    go_wp2_with fail
                    go_region_held3 (fun w' => w'.cell? ⟨b, off + j * 4 + 2, none⟩ = some (.int .i64 a)) (first | exact k2 | exact l2 | exact m2)
                      (first
                        | (go_at_call 16; refine hc1.mono ?_; clear hc1; rintro e w5 ⟨rfl, h5⟩; have l2 := h5.old HC.out.2; have hc2 := h5.tMove 1 rfl x a x0 x1 ha.2 HR.out.2)
                        | (go_at_call 16; refine hc2.mono ?_; rintro e w6 ⟨rfl, h6⟩; have m2 := h6.old HC.out.2))
                    have hfin := Lib.hid (show RawRel2 w tb ub (j + 1) (.slice sl ls.length cl) w6 from by
                      obtain ⟨_, hx, hjl, _⟩ := HX.out
                      exact ⟨T', U', sl, cl, ls, rfl, h6, hx, by omega, HR.out.1⟩)
                    clear h5 h6 hc2 k2 l2 m2
                    go_wp2_with fail
                    go_meet
                    case rel => exact hfin.out
                  have b3 : (d == 3) = false := beqF d3
                  by_cases d4 : d = 4
                  · have b4 : (d == 4) = true := beqT d4
                    rcases r : T.close x with ⟨er, T'⟩
                    rcases rU : U.close x with ⟨er2, U'⟩
                    have ht := htw.close_ x
                    rw [r, rU] at ht
                    obtain ⟨e1, ht⟩ := ht
                    dsimp only at e1 ht
                    subst e1
                    have hc1 := h.tClose 0 rfl x x0 x1 r
                    have HR := Lib.hid (And.intro ht rU)
                    have q1 : (er2 != er2) = false := bneF rfl
                    clear d1 d3 d4 r rU ht h hx hjl htw
                    go_wp2_with fail
                    refine hc1.mono ?_
                    rintro e w5 ⟨rfl, h5⟩
                    have hc2 := h5.tClose 1 rfl x x0 x1 HR.out.2
                    clear hc1 h5
                    go_wp2_with fail
                    refine hc2.mono ?_
                    rintro e w6 ⟨rfl, h6⟩
                    have hfin := Lib.hid (show RawRel2 w tb ub (j + 1) (.slice sl ls.length cl) w6 from by
                      obtain ⟨_, hx, hjl, _⟩ := HX.out
                      exact ⟨T', U', sl, cl, ls, rfl, h6, hx, by omega, HR.out.1⟩)
                    clear hc2 h6
                    go_wp2_with fail
                    go_meet
                    case rel => exact hfin.out
                  have b4 : (d == 4) = false := beqF d4
                  have hfin := Lib.hid (show RawRel2 w tb ub (j + 1) (.slice sl ls.length cl) wr from ⟨T, U, sl, cl, ls, rfl, h, hx, by omega, htw⟩)
                  clear d1 d3 d4 h hx hjl htw
                  go_wp2_with fail
                  go_meet
                  case rel => exact hfin.out
              case rest =>
                as_aux_lemma =>
                  obtain ⟨T2, U2, sl2, cl2, ls2, rfl, h2, hx2, hjl2, htw2⟩ := hcut
                  have k1 := h2.tAt 0 rfl x x0 x1 (show T2.at' x = ((T2.at' x).1, (T2.at' x).2) from rfl)
                  have k2 := h2.tAt 1 rfl x x0 x1 (show U2.at' x = ((T2.at' x).1, (T2.at' x).2) from htw2.at_ x)
                  have k3 := h2.tUsed 0 rfl
                  have k4 := h2.tUsed 1 rfl
                  rw [htw2.len] at k4
                  have hfin := Lib.hid (show RawRel2 w tb ub (j + 1) (.slice sl2 ls2.length cl2) wc from ⟨T2, U2, sl2, cl2, ls2, rfl, h2, hx2, hjl2, htw2⟩)
                  generalize (T2.at' x).1 = y1 at *
                  generalize (T2.at' x).2 = y2 at *
                  have q1 : (y1 != y1) = false := bneF rfl
                  have q2 : (y2 != y2) = false := bneF rfl
                  have q3 : ((T2.l.length : Int) != (T2.l.length : Int)) = false := bneF rfl
                  clear h2 hx2 hjl2 htw2 c0 c1 c2
                  go_wp2_with fail
                  refine k1.mono ?_
                  rintro e w5 ⟨rfl, rfl⟩
                  clear k1
                  go_wp2_with fail
                  refine k2.mono ?_
                  rintro e w5 ⟨rfl, rfl⟩
                  clear k2
                  go_wp2_with fail
                  refine k3.mono ?_
                  rintro e w5 ⟨rfl, rfl⟩
                  clear k3
                  go_wp2_with fail
                  refine k4.mono ?_
                  rintro e w5 ⟨rfl, rfl⟩
                  clear k4
                  go_wp2
                  go_roundw
                  case rel => exact ⟨j + 1, by go_num, by omega, hfin.out⟩
                  case measure => simp [intOf]; omega
            · have H := Lib.hid h
              clear hx h htw
              go_wp2_with fail
              refine (awake_call _).mono ?_
              rintro e w5 ⟨rfl, hm⟩
              have H6 := Lib.hid (H.out.more hm)
              clear hm
              go_wp2
              go_ret
              exact ⟨rfl, H6.out.below⟩

set_option maxRecDepth 100000 in
theorem handleRaw_walk (a0 a1 : Int) (s2 : Option Addr) (len2 cap2 : Nat) (z2 : List (List Int)) (s3 : Option Addr) (len3 cap3 : Nat) (z3 : List (List Int)) (s4 : Option Addr) (len4 cap4 : Nat) (z4 : List (List Int)) (w : World)
    (_w0 : (Lit.int .i64 a0).wf = true) (w1 : (Lit.int .u32 a1).wf = true) (R2 : Recs w s2 len2 [some .i64, some .i64, some .i64, some .u64] z2) (R3 : Recs w s3 len3 [some .i64, some .i64, some .i64, some .u64] z3) (R4 : Recs w s4 len4 [none, some .u32, some .i64] z4) :
    Calls Try.prog 10 #[.int .i64 a0, .int .u32 a1, .slice s2 len2 cap2, .slice s3 len3 cap3, .slice s4 len4 cap4] w fun e w' => e = .returned (.bool true) ∧ Below w.heap.size w w' := by
  have ha := fun W => awake_call W
  have hb := bounds_u32 w1
  have HA := Lib.hid ha
  clear ha
  by_cases h2 : ¬ len2 ≤ 100
  · have d2 : decide ((100 : Int) < (len2 : Int)) = true := ltT (by omega)
    clear R2 R3 R4
    go_enter Try.func10, Try.ntmps10
    go_wp2_with fail
    refine (HA.out _).mono ?_
    rintro e w3 ⟨rfl, hm⟩
    have H6 := Lib.hid ((Sep.nil w).more hm)
    clear hm
    go_wp2
    go_ret
    exact ⟨rfl, H6.out.below⟩
  have d2 : decide ((100 : Int) < (len2 : Int)) = false := ltF (by omega)
  by_cases h3 : ¬ len3 ≤ 100
  · have d3 : decide ((100 : Int) < (len3 : Int)) = true := ltT (by omega)
    clear R2 R3 R4
    go_enter Try.func10, Try.ntmps10
    go_wp2_with fail
    refine (HA.out _).mono ?_
    rintro e w3 ⟨rfl, hm⟩
    have H6 := Lib.hid ((Sep.nil w).more hm)
    clear hm
    go_wp2
    go_ret
    exact ⟨rfl, H6.out.below⟩
  have d3 : decide ((100 : Int) < (len3 : Int)) = false := ltF (by omega)
  by_cases h4 : ¬ len4 ≤ 100
  · have d4 : decide ((100 : Int) < (len4 : Int)) = true := ltT (by omega)
    clear R2 R3 R4
    go_enter Try.func10, Try.ntmps10
    go_wp2_with fail
    refine (HA.out _).mono ?_
    rintro e w3 ⟨rfl, hm⟩
    have H6 := Lib.hid ((Sep.nil w).more hm)
    clear hm
    go_wp2
    go_ret
    exact ⟨rfl, H6.out.below⟩
  have d4 : decide ((100 : Int) < (len4 : Int)) = false := ltF (by omega)
  obtain ⟨hz, hzl, hzr⟩ := slots_of R4
  have hof := of_call hz cap4 a0 a1 (by omega) (by omega) hzr
  rw [hzl] at hof
  by_cases hnew : 1 ≤ a0 ∧ a0 ≤ 65536 ∧ 1 ≤ a1
  · by_cases hok : (∀ r ∈ z4.map toZ, HTbl.rOk a1 r = true) ∧ ((z4.map toZ).length : Int) ≤ a0
    · refine raw_ok a0 a1 s2 len2 cap2 z2 s3 len3 cap3 z3 s4 len4 cap4 _ w hnew (by omega) R2 R3 (by omega) (by omega) (by omega) hz hzl w.heap.size (HTbl.ofRaw a0 a1 (z4.map toZ)) (HTbl.raw_ofRaw hok.1) (hof.mono fun e w' hp => ?_)
      rcases hp with ⟨_, _, hbad⟩ | ⟨he, hs, _⟩
      · exfalso
        rcases hbad hok.2 with hb | hb
        · exact hb hok.1
        · exact hb hnew
      · exact ⟨he, hs⟩
    · refine raw_err a0 a1 s2 len2 cap2 z2 s3 len3 cap3 z3 s4 len4 cap4 w hnew (by omega) R2 R3 (by omega) (by omega) (by omega) (hof.mono fun e w' hp => ?_)
      rcases hp with ⟨⟨er, her, he⟩, hm, _⟩ | ⟨_, _, h1, _, _, _, h2⟩
      · rcases her with ⟨_, hb⟩ | ⟨rfl, _⟩
        · exact absurd hnew hb
        · exact ⟨he, (Sep.nil w).more hm⟩
      · exact absurd ⟨h1, h2⟩ hok
  · have hof : Calls Try.prog 24 #[.int .i64 a0, .int .u32 a1, .slice s4 len4 cap4] w fun e w' => e = .returned (.tuple #[.pointer none, .int .i64 2]) ∧ Mod No w w' := by
      refine hof.mono fun e w' hp => ?_
      rcases hp with ⟨⟨er, her, he⟩, hm, _⟩ | ⟨_, _, _, h1, h2, h3, _⟩
      · rcases her with ⟨rfl, _⟩ | ⟨_, hb⟩
        · exact ⟨he, hm⟩
        · exact absurd hb hnew
      · exact absurd ⟨h1, h2, h3⟩ hnew
    have HN := Lib.hid (fun W => new_no W a0 a1 hnew)
    have HRN := Lib.hid (fun W => raw_none (none_nil W))
    clear hnew R2 R3 R4 hz hzl hzr
    go_enter Try.func10, Try.ntmps10
    go_wp2_with fail
    refine hof.mono ?_
    rintro e w0 ⟨rfl, hm⟩
    have HM := Lib.hid hm
    clear hof hm
    go_wp2_with fail
    refine (HRN.out _).mono ?_
    rintro e w3 ⟨rfl, rfl⟩
    go_wp2_with fail
    refine (HN.out _).mono ?_
    rintro e w3 ⟨rfl, rfl⟩
    go_wp2_with fail
    refine (HA.out _).mono ?_
    rintro e w3 ⟨rfl, hm⟩
    have H6 := Lib.hid (((Sep.nil w).more HM.out).more hm)
    clear hm
    go_wp2
    go_ret
    exact ⟨rfl, H6.out.below⟩
end Go.Proofs.Ytbcecgbnnpbjbaa
