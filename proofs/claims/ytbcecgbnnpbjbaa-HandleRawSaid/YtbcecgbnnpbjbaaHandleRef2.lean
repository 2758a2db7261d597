/- The reference of layer 5 (loftref05): At, Move, Close, New, Live, Same, walked. Conditions: the table in memory is as said; handles are 64-bit words. -/
import Derived.Test.YtbcecgbnnpbjbaaHandleRef
namespace Go.Proofs.Ytbcecgbnnpbjbaa
open Go Go.RowKit

/-- The reference's table, in block b. -/
def rtabR (b : Nat) (T : HTbl) : Res := exR fun v => starR (cellsAt b #[.int .i64 T.most, .int .u32 T.last, v] 50) (rowAt 81 3 v T.l.length (rrow T.l))

variable {F : Nat → Prop} {w0 w : World}

theorem rtab_open {b : Nat} {T : HTbl} (h : Sep F w0 w [rtabR b T]) : ∃ sa cap, Sep F w0 w [cellsAt b #[.int .i64 T.most, .int .u32 T.last, .slice sa T.l.length cap] 50, rowAt 81 3 (.slice sa T.l.length cap) T.l.length (rrow T.l)] := by
  obtain ⟨v, h⟩ := h.openEx 0 rfl
  have h : Sep F w0 w [cellsAt b #[.int .i64 T.most, .int .u32 T.last, v] 50, rowAt 81 3 v T.l.length (rrow T.l)] := h.openStar 0 rfl
  obtain ⟨sa, cap, rfl⟩ := h.form 1 rfl
  exact ⟨sa, cap, h⟩

theorem rtab_shut {b : Nat} {T : HTbl} {v : Value} (h : Sep F w0 w [cellsAt b #[.int .i64 T.most, .int .u32 T.last, v] 50, rowAt 81 3 v T.l.length (rrow T.l)]) : Sep F w0 w [rtabR b T] :=
  (h.shutStar 0 1 (by decide) rfl rfl rfl).shutEx 0 (fun v => starR (cellsAt b #[.int .i64 T.most, .int .u32 T.last, v] 50) (rowAt 81 3 v T.l.length (rrow T.l))) v rfl

theorem find_ok {T : HTbl} {n : Int} (hb : T.okB n = true) : ∃ k s, T.findAt n = (k : Nat) ∧ (HTbl.place n).toNat = k ∧ T.l[k]? = some s := by
  obtain ⟨p0, s, hs, _⟩ := HTbl.okB_place hb
  exact ⟨_, s, by unfold HTbl.findAt; rw [hb, Int.toNat_of_nonneg p0]; rfl, rfl, hs⟩
theorem find_no {T : HTbl} {n : Int} (hb : T.okB n = false) : T.findAt n = -1 := by unfold HTbl.findAt; rw [hb]; rfl

theorem rslot {v : Value} {T : HTbl} (hr : w.ownsRow 0 81 3 v T.l.length (rrow T.l)) {k : Nat} {s : HSlot} (hs : T.l[k]? = some s) :
    ∃ g cap, v = .slice (some ⟨g, 0, none⟩) T.l.length cap ∧ k < T.l.length ∧ w.cell? ⟨g, k * 3, none⟩ = some (.bool (s.is == 1)) ∧ w.cell? ⟨g, k * 3 + 1, none⟩ = some (.int .u32 s.gen) ∧ w.cell? ⟨g, k * 3 + 2, none⟩ = some (.int .i64 s.addr) ∧ (∀ o, w.frozen? ⟨g, o, none⟩ = false) ∧ g < w.heap.size := by
  have hk := (List.getElem?_eq_some_iff.1 hs).1
  obtain ⟨g, cap, rfl⟩ := Joins.ownsRow_form hr (by omega)
  have hg := rrow_get hs
  refine ⟨g, cap, rfl, hk, ?_, ?_, ?_, fun o => hr.frozenAt o, (hr.lt g rfl).2⟩
  · rw [hr.cellAt _ (by omega)]; exact hg.1
  · rw [hr.cellAt _ (by omega)]; exact hg.2.1
  · rw [hr.cellAt _ (by omega)]; exact hg.2.2

theorem rat_call {v : Value} {T : HTbl} (hr : w.ownsRow 0 81 3 v T.l.length (rrow T.l)) (hT : T.Ok) (n : Int) (n0 : 0 ≤ n) (n1 : n < 18446744073709551616) :
    Calls Try.prog 30 #[.agg #[.int .i64 T.most, .int .u32 T.last, v], .int .u64 n] w fun e w' => e = .returned (.tuple #[.int .i64 (T.at' n).1, .int .i64 (T.at' n).2]) ∧ Mod No w w' := by
  obtain ⟨sa, cap, rfl⟩ : ∃ sa cap, v = .slice sa T.l.length cap := by
    obtain ⟨rfl, hz⟩ | ⟨g, cap, rfl⟩ := Joins.ownsRow_forms hr
    · exact ⟨none, 0, by rw [hz]⟩
    · exact ⟨_, _, rfl⟩
  have hc := find_call (hr.alloc (.cells #[.int .i64 T.most, .int .u32 T.last, .slice sa T.l.length cap] 50)) hT n n0 n1
  have hm0 : Mod No w (w.alloc (.cells #[.int .i64 T.most, .int .u32 T.last, .slice sa T.l.length cap] 50)) := (Mod.refl _ _).alloc _
  cases hb : T.okB n with
  | false =>
    have hv : T.at' n = (0, 7) := by unfold HTbl.at'; rw [hb]; rfl
    rw [find_no hb] at hc
    rw [hv]
    clear hb hv hr hT
    go_enter Try.func30, Try.ntmps30
    go_wp2_with ((with_reducible refine hc.mono ?_); rintro e w' ⟨rfl, hm⟩)
    go_ret2
    exact ⟨rfl, hm0.trans' hm⟩
  | true =>
    obtain ⟨k, s, hf, hpl, hs⟩ := find_ok hb
    have hv : T.at' n = (s.addr, 0) := by unfold HTbl.at'; rw [hb, hpl, hs]; rfl
    rw [hf] at hc
    rw [hv]
    obtain ⟨g, cap', hv', hkl, _, _, c2, _, hg⟩ := rslot hr hs
    simp only [Value.slice.injEq, true_and] at hv'
    obtain ⟨rfl, rfl⟩ := hv'
    have C2 := Lib.hid (And.intro (hm0.cell c2 (fun x => x)) (cell_at (heap_alloc_new w (.cells #[.int .i64 T.most, .int .u32 T.last, .slice (some ⟨g, 0, none⟩) T.l.length cap] 50)) 2))
    generalize s.addr = a at *
    clear hb hv hr hf hs hpl c2 hT
    go_enter Try.func30, Try.ntmps30
    go_wp2_with fail
    refine hc.mono ?_
    rintro e w1 ⟨rfl, hm⟩
    have c2 := hm.cell C2.out.1 (fun x => x)
    have c3 := hm.cell C2.out.2 (fun x => x)
    clear hc C2
    go_wp2
    go_ret2
    exact ⟨rfl, hm0.trans' hm⟩

theorem infoRSlot : (Try.prog.info? 81).map (fun i => (i.zero, i.size, i.bytes)) = some (some (.agg #[.bool false, .int .u32 0, .int .i64 0]), 3, 16) := by kernel_rfl

theorem rrow_setAddr {l : List HSlot} {k : Nat} {s : HSlot} (h : l[k]? = some s) (a : Int) : rrow (l.set k { s with addr := a }) = (rrow l).set (k * 3 + 2) (.int .i64 a) := flat_set rcell_len l k 2 s _ _ h (by omega) rfl
theorem rrow_setIs {l : List HSlot} {k : Nat} {s : HSlot} (h : l[k]? = some s) (i : Int) (hi : i ≠ 1) : rrow (l.set k { s with is := i }) = (rrow l).set (k * 3) (.bool false) :=
  flat_set rcell_len l k 0 s _ _ h (by omega) (by simp [rcell, hi])

/-- 't.L = append([]Slot{}, t.L...)', walked up to the store's end: a table whose slots lie in a block of their own. -/
theorem rtab_copied {b : Nat} {T : HTbl} {sa sb : Option Addr} {cap cap2 : Nat} (h : Sep F w0 w [cellsAt b #[.int .i64 T.most, .int .u32 T.last, .slice sa T.l.length cap] 50, rowAt 81 3 (.slice sa T.l.length cap) T.l.length (rrow T.l), rowAt 81 3 (.slice sb T.l.length cap2) T.l.length (rrow T.l)]) :
    Sep F w0 (w.setCell ⟨b, 2, none⟩ (.slice sb T.l.length cap2)) [cellsAt b #[.int .i64 T.most, .int .u32 T.last, .slice sb T.l.length cap2] 50, rowAt 81 3 (.slice sb T.l.length cap2) T.l.length (rrow T.l)] := by
  have h2 : Sep F w0 (w.setCell ⟨b, 2, none⟩ (.slice sb T.l.length cap2)) [cellsAt b #[.int .i64 T.most, .int .u32 T.last, .slice sb T.l.length cap2] 50, rowAt 81 3 (.slice sa T.l.length cap) T.l.length (rrow T.l), rowAt 81 3 (.slice sb T.l.length cap2) T.l.length (rrow T.l)] := h.set 0 rfl 2 _
  exact h2.pick (fun i => if i = 0 then 0 else 2) (fun i hi => by match i, hi with | 0, _ => rfl | 1, _ => rfl) (fun i j hi hj hij => by match i, j, hi, hj with | 0, 1, _, _ => decide | 1, 0, _, _ => decide | 0, 0, _, _ => exact absurd rfl hij | 1, 1, _, _ => exact absurd rfl hij)


theorem rmove_call {b : Nat} {T : HTbl} (h : Sep F w w [rtabR b T]) (hT : T.Ok) (n a : Int) (n0 : 0 ≤ n) (n1 : n < 18446744073709551616) :
    Calls Try.prog 31 #[.pointer (some ⟨b, 0, none⟩), .int .u64 n, .int .i64 a] w fun e w' => e = .returned (.int .i64 (T.move n a).1) ∧ Sep F w w' [rtabR b (T.move n a).2] := by
  have hlen : (T.l.length : Int) ≤ 65536 := by have := hT.len; have := hT.most2; omega
  by_cases ha : a < 0
  · have hv : T.move n a = (2, T) := by unfold HTbl.move; rw [if_pos ha]
    rw [hv]
    have H := Lib.hid h
    clear h hv n0 n1 hT
    go_enter Try.func31, Try.ntmps31
    go_wp2
    go_ret
    exact ⟨rfl, H.out⟩
  have ha' : 0 ≤ a := Int.not_lt.1 ha
  clear ha
  obtain ⟨sa, cap, h1⟩ := rtab_open h
  have c0 := (h1.cell 0 rfl 0 (v := .int .i64 T.most) rfl).1
  have c1 := (h1.cell 0 rfl 1 (v := .int .u32 T.last) rfl).1
  have c2 := (h1.cell 0 rfl 2 (v := .slice sa T.l.length cap) rfl).1
  have hc := find_call (h1.row 1 rfl) hT n n0 n1
  cases hb : T.okB n with
  | false =>
    have hv : T.move n a = (7, T) := by unfold HTbl.move; rw [if_neg (by omega), hb]; rfl
    rw [find_no hb] at hc
    rw [hv]
    have H := Lib.hid h
    clear hb hv hT h h1
    go_enter Try.func31, Try.ntmps31
    go_wp2_with ((with_reducible refine hc.mono ?_); rintro e w' ⟨rfl, hm⟩)
    go_ret
    exact ⟨rfl, H.out.more hm⟩
  | true =>
    obtain ⟨k, s, hf, hpl, hs⟩ := find_ok hb
    have hv : T.move n a = (0, T.setAddr k a) := by unfold HTbl.move; rw [if_neg (by omega), hb, hpl]; rfl
    have hT' : T.setAddr k a = { T with l := T.l.set k { s with addr := a } } := by unfold HTbl.setAddr; rw [hs]
    rw [hf] at hc
    rw [hv, hT']
    obtain ⟨i0, hi0, hz0, hz1, hz2⟩ := info_parts infoRSlot
    have HI := Lib.hid (And.intro hi0 (And.intro hz0 (And.intro hz1 hz2)))
    have hkl := (List.getElem?_eq_some_iff.1 hs).1
    have HS := Lib.hid hs
    clear hb hv hT h hT' hs hf hpl hi0 hz0 hz1 hz2
    go_enter Try.func31, Try.ntmps31
    go_wp2_with fail
    refine hc.mono ?_
    rintro e w1 ⟨rfl, hm⟩
    have h2 := h1.more hm
    clear hm h1 hc c0 c1 c2
    have c2 := (h2.cell 0 rfl 2 (v := .slice sa T.l.length cap) rfl).1
    have hb := lt_of_at (h2.block 0 rfl)
    have hE : Sep F w (w1.alloc (.cells #[] 81)) [cellsAt b #[.int .i64 T.most, .int .u32 T.last, .slice sa T.l.length cap] 50, rowAt 81 3 (.slice sa T.l.length cap) T.l.length (rrow T.l), rowAt 81 3 (.slice (some ⟨w1.heap.size, 0, none⟩) 0 0) 0 []] := h2.pushEmpty _ _
    have hsrc := srcOf_row (hE.row 1 rfl) (rrow_one _)
    obtain ⟨hi0, hz0, hz1, hz2⟩ := HI.out
    go_wp2_with (at_builtin; refine wpList_append_src hE 2 rfl (by rfl) _ _ 48 rfl Try.underlying48 hi0 hz0 hz1 hz2 rfl (by decide) (by rfl) _ (by rfl) hsrc (by unfold maxLen; omega) (by omega) ?_)
    intro sb cap2 w2 h2
    have hB := (h2.cell 0 rfl 2 (v := .slice sa T.l.length cap) rfl)
    have b1 := hB.1
    have b2 := hB.2
    have h3 := rtab_copied h2
    obtain ⟨g, rfl, e2, f2⟩ := h3.item 1 rfl (rrow_get HS.out).2.2
    have f2 := f2 (k * 3 + 2)
    have h4 := h3.setItem 1 rfl (k * 3 + 2) (.int .i64 a)
    have H := Lib.hid h4
    clear h2 h3 h4 hE hsrc hB hi0 hz0 hz1 hz2 c2
    go_wp2
    go_ret
    refine ⟨rfl, rtab_shut (v := .slice (some ⟨g, 0, none⟩) T.l.length cap2) ?_⟩
    have h4 := H.out
    simp only [List.length_set]
    rw [rrow_setAddr HS.out]
    exact h4

theorem rclose_call {b : Nat} {T : HTbl} (h : Sep F w w [rtabR b T]) (hT : T.Ok) (n : Int) (n0 : 0 ≤ n) (n1 : n < 18446744073709551616) :
    Calls Try.prog 32 #[.pointer (some ⟨b, 0, none⟩), .int .u64 n] w fun e w' => e = .returned (.int .i64 (T.close n).1) ∧ Sep F w w' [rtabR b (T.close n).2] := by
  have hlen : (T.l.length : Int) ≤ 65536 := by have := hT.len; have := hT.most2; omega
  obtain ⟨sa, cap, h1⟩ := rtab_open h
  have c0 := (h1.cell 0 rfl 0 (v := .int .i64 T.most) rfl).1
  have c1 := (h1.cell 0 rfl 1 (v := .int .u32 T.last) rfl).1
  have c2 := (h1.cell 0 rfl 2 (v := .slice sa T.l.length cap) rfl).1
  have hc := find_call (h1.row 1 rfl) hT n n0 n1
  cases hb : T.okB n with
  | false =>
    have hv : T.close n = (7, T) := by unfold HTbl.close; rw [hb]; rfl
    rw [find_no hb] at hc
    rw [hv]
    have H := Lib.hid h
    clear hb hv hT h h1
    go_enter Try.func32, Try.ntmps32
    go_wp2_with ((with_reducible refine hc.mono ?_); rintro e w' ⟨rfl, hm⟩)
    go_ret
    exact ⟨rfl, H.out.more hm⟩
  | true =>
    obtain ⟨k, s, hf, hpl, hs⟩ := find_ok hb
    have hv : T.close n = (0, T.shut k) := by unfold HTbl.close; rw [hb, hpl]; rfl
    have hT' : T.shut k = { T with l := T.l.set k { s with is := if s.gen = T.last then 2 else 0 } } := by unfold HTbl.shut; rw [hs]
    rw [hf] at hc
    rw [hv, hT']
    obtain ⟨iv, hiv, hne⟩ : ∃ iv : Int, (if s.gen = T.last then (2 : Int) else 0) = iv ∧ iv ≠ 1 := ⟨_, rfl, by split <;> decide⟩
    rw [hiv]
    have HV := Lib.hid hne
    clear hiv hne
    obtain ⟨i0, hi0, hz0, hz1, hz2⟩ := info_parts infoRSlot
    have HI := Lib.hid (And.intro hi0 (And.intro hz0 (And.intro hz1 hz2)))
    have hkl := (List.getElem?_eq_some_iff.1 hs).1
    have HS := Lib.hid hs
    clear hb hv hT h hT' hs hf hpl hi0 hz0 hz1 hz2
    go_enter Try.func32, Try.ntmps32
    go_wp2_with fail
    refine hc.mono ?_
    rintro e w1 ⟨rfl, hm⟩
    have h2 := h1.more hm
    clear hm h1 hc c0 c1 c2
    have c2 := (h2.cell 0 rfl 2 (v := .slice sa T.l.length cap) rfl).1
    have hb := lt_of_at (h2.block 0 rfl)
    have hE : Sep F w (w1.alloc (.cells #[] 81)) [cellsAt b #[.int .i64 T.most, .int .u32 T.last, .slice sa T.l.length cap] 50, rowAt 81 3 (.slice sa T.l.length cap) T.l.length (rrow T.l), rowAt 81 3 (.slice (some ⟨w1.heap.size, 0, none⟩) 0 0) 0 []] := h2.pushEmpty _ _
    have hsrc := srcOf_row (hE.row 1 rfl) (rrow_one _)
    obtain ⟨hi0, hz0, hz1, hz2⟩ := HI.out
    go_wp2_with (at_builtin; refine wpList_append_src hE 2 rfl (by rfl) _ _ 48 rfl Try.underlying48 hi0 hz0 hz1 hz2 rfl (by decide) (by rfl) _ (by rfl) hsrc (by unfold maxLen; omega) (by omega) ?_)
    intro sb cap2 w2 h2
    have hB := (h2.cell 0 rfl 2 (v := .slice sa T.l.length cap) rfl)
    have b1 := hB.1
    have b2 := hB.2
    have h3 := rtab_copied h2
    obtain ⟨g, rfl, e2, f2⟩ := h3.item 1 rfl (rrow_get HS.out).1
    have f2 := f2 (k * 3)
    have h4 := h3.setItem 1 rfl (k * 3) (.bool false)
    have H := Lib.hid h4
    generalize (s.is == 1) = sb at *
    clear h2 h3 h4 hE hsrc hB hi0 hz0 hz1 hz2 c2
    go_wp2
    go_ret
    refine ⟨rfl, rtab_shut (v := .slice (some ⟨g, 0, none⟩) T.l.length cap2) ?_⟩
    have h4 := H.out
    simp only [List.length_set]
    rw [rrow_setIs HS.out _ HV.out]
    exact h4

/-- New: a table without slots; what the law does with it is to lay it in a variable of its own. -/
theorem rnew_ok (m l : Int) (h1 : 1 ≤ m) (h2 : m ≤ 65536) (h3 : 1 ≤ l) (w : World) :
    Calls Try.prog 20 #[.int .i64 m, .int .u32 l] w fun e w' => e = .returned (.tuple #[.agg #[.int .i64 m, .int .u32 l, .slice none 0 0], .int .i64 0]) ∧ Mod No w w' := by
  have d1 : decide (m < 1) = false := ltF h1
  have d2 : decide (65536 < m) = false := ltF h2
  have d3 : (l == 0) = false := beqF (by omega)
  have hm : ∀ o, Mod No w (w.alloc o) := fun o => (Mod.refl _ w).alloc o
  have HM := Lib.hid hm
  clear hm
  go_enter Try.func20, Try.ntmps20
  go_wp2
  exact bodyPost_ret (v := .tuple #[.agg #[.int .i64 m, .int .u32 l, .slice none 0 0], .int .i64 0]) (by simp [results, Try.results20, go_sem]) rfl ⟨rfl, HM.out _⟩

theorem rnew_no (m l : Int) (h : ¬ (1 ≤ m ∧ m ≤ 65536 ∧ 1 ≤ l)) (hl : 0 ≤ l) (w : World) :
    Calls Try.prog 20 #[.int .i64 m, .int .u32 l] w fun e w' => e = .returned (.tuple #[.agg #[.int .i64 0, .int .u32 0, .slice none 0 0], .int .i64 2]) ∧ Mod No w w' := by
  have hm : ∀ o, Mod No w (w.alloc o) := fun o => (Mod.refl _ w).alloc o
  have HM := Lib.hid hm
  clear hm
  by_cases c1 : m < 1
  · have d1 : decide (m < 1) = true := ltT c1
    clear h
    go_enter Try.func20, Try.ntmps20
    go_wp2
    exact bodyPost_ret (v := .tuple #[.agg #[.int .i64 0, .int .u32 0, .slice none 0 0], .int .i64 2]) (by simp [results, Try.results20, go_sem]) rfl ⟨rfl, HM.out _⟩
  by_cases c2 : 65536 < m
  · have d2 : decide (65536 < m) = true := ltT c2
    have d1 : decide (m < 1) = false := ltF (by omega)
    clear h
    go_enter Try.func20, Try.ntmps20
    go_wp2
    exact bodyPost_ret (v := .tuple #[.agg #[.int .i64 0, .int .u32 0, .slice none 0 0], .int .i64 2]) (by simp [results, Try.results20, go_sem]) rfl ⟨rfl, HM.out _⟩
  have d2 : decide (65536 < m) = false := ltF (by omega)
  have d1 : decide (m < 1) = false := ltF (by omega)
  have d3 : (l == 0) = true := beqT (by omega)
  clear h
  go_enter Try.func20, Try.ntmps20
  go_wp2
  exact bodyPost_ret (v := .tuple #[.agg #[.int .i64 0, .int .u32 0, .slice none 0 0], .int .i64 2]) (by simp [results, Try.results20, go_sem]) rfl ⟨rfl, HM.out _⟩

/-- Live. -/
theorem rlive_call {v : Value} {T : HTbl} (hr : w.ownsRow 0 81 3 v T.l.length (rrow T.l)) (hT : T.Ok) :
    Calls Try.prog 23 #[.agg #[.int .i64 T.most, .int .u32 T.last, v]] w fun e w' => ∃ sa cap, e = .returned (.slice sa T.live.length cap) ∧ Sep No w w' [intsAt 31 .u64 (.slice sa T.live.length cap) T.live] := by
  have hlen : (T.l.length : Int) ≤ 65536 := by have := hT.len; have := hT.most2; omega
  obtain ⟨i0, hi0, hz0, hz1, hz2⟩ := info_parts infoHandle
  have HI := Lib.hid (And.intro hi0 (And.intro hz0 (And.intro hz1 hz2)))
  obtain ⟨sa, cap, rfl⟩ : ∃ sa cap, v = .slice sa T.l.length cap := by
    obtain ⟨rfl, hz⟩ | ⟨g, cap, rfl⟩ := Joins.ownsRow_forms hr
    · exact ⟨none, 0, by rw [hz]⟩
    · exact ⟨_, _, rfl⟩
  have hst : Sep No w (w.alloc (.cells #[.int .i64 T.most, .int .u32 T.last, .slice sa T.l.length cap] 50)) [cellsAt w.heap.size #[.int .i64 T.most, .int .u32 T.last, .slice sa T.l.length cap] 50, intsAt 31 .u64 (.slice none 0 0) (T.liveTo 0)] := ((Sep.nil w).pushCells _ _).pushNil _ _
  have HR := Lib.hid (And.intro hr hT)
  have HST := Lib.hid hst
  obtain ⟨B, hB⟩ : ∃ B, w.heap.size = B := ⟨_, rfl⟩
  have HB := Lib.hid hB
  clear hr hT hst hi0 hz0 hz1 hz2
  go_enter Try.func23, Try.ntmps23
  go_wp2_with fail
  rw [hB] at HST
  clear hB
  go_loopw [3, 4] (fun out i wr => ∃ j : Nat, j ≤ T.l.length ∧ i = .int .i64 j ∧ Sep No w wr [cellsAt B #[.int .i64 T.most, .int .u32 T.last, .slice sa T.l.length cap] 50, intsAt 31 .u64 out (T.liveTo j)]) (fun _ i _ => T.l.length - (intOf i).toNat)
  case atStart => exact ⟨0, Nat.zero_le _, rfl, HST.out⟩
  case round =>
    obtain ⟨j, hj, rfl, h⟩ := hrel
    have c2 := (h.cell 0 rfl 2 (v := .slice sa T.l.length cap) rfl).1
    have hbl := lt_of_at (h.block 0 rfl)
    clear HST
    by_cases hlt : j < T.l.length
    · have hs := List.getElem?_eq_getElem hlt
      obtain ⟨g, cap', hv, _, b0, b1, b2, _, hgl⟩ := rslot HR.out.1 hs
      simp only [Value.slice.injEq, true_and] at hv
      obtain ⟨rfl, rfl⟩ := hv
      have b0 := h.old b0
      have b1 := h.old b1
      have hgw := Nat.lt_of_lt_of_le hgl h.size
      have hso := HR.out.2.slots j _ hs
      have hla := HR.out.2.last2
      have g0 : 0 ≤ (T.l[j]).gen ∧ (T.l[j]).gen ≤ 4294967295 := by have := hso.2.1; have := hso.2.2.1; omega
      have hle := HTbl.liveTo_le T j
      have hlo : T.liveTo (j + 1) = T.liveTo j ++ if (T.l[j]).is = 1 then [HTbl.nameOf j (T.l[j]).gen] else [] := by
        simp only [HTbl.liveTo, hs]
      obtain ⟨g1, g2⟩ := g0
      have HX := Lib.hid hlo
      clear hlo hs hso hla b2 hgl
      generalize T.l[j] = s at *
      by_cases hi1 : s.is = 1
      · have hb : (s.is == 1) = true := beqT hi1
        rw [hb] at b0
        have hlo := HX.out
        rw [if_pos hi1] at hlo
        have HX := Lib.hid hlo
        clear hi1 hb hlo
        obtain ⟨hi0, hz0, hz1, hz2⟩ := HI.out
        go_wp2_with (first | (go_at_call 33; refine (rname_call _ _ (by omega) (by omega) (by omega) (by omega) _).mono ?_; rintro e w' ⟨rfl, rfl⟩) | (at_builtin; refine wpList_append_sep1 h 1 rfl (by rfl) _ _ 29 rfl Try.underlying29 hi0 hz0 hz1 hz2 rfl (by rfl) _ _ (by rfl) (by simp) (by rfl) _ (by unfold maxLen; omega) (by omega) ?_))
        intro gg capg w2 h2
        have H2 := Lib.hid h2
        clear h2 h hi0 hz0 hz1 hz2
        go_wp2
        go_roundw
        case rel =>
          refine ⟨j + 1, by omega, by go_num, ?_⟩
          rw [HX.out, intsAt, List.map_append, List.length_append]
          exact H2.out
        case measure => simp [intOf]; omega
      · have hb : (s.is == 1) = false := beqF hi1
        rw [hb] at b0
        have hlo := HX.out
        rw [if_neg hi1, List.append_nil] at hlo
        have HX := Lib.hid (And.intro hlo h)
        clear hi1 hb hlo h
        go_wp2
        go_roundw
        case rel => exact ⟨j + 1, by omega, by go_num, by rw [HX.out.1]; exact HX.out.2⟩
        case measure => simp [intOf]; omega
    · obtain rfl : j = T.l.length := by omega
      have H := Lib.hid h
      clear h
      go_wp2
      go_ret
      obtain ⟨sl, capl, rfl⟩ := H.out.form 1 rfl
      exact ⟨sl, capl, rfl, H.out.pick (fun _ => 1) (fun i hi => by match i, hi with | 0, _ => rfl) (fun i j hi hj hij => by simp at hi hj; omega)⟩

/-- Same: two slices of one list. -/
theorem rsame_call {sa sb : Option Addr} {ca cb : Nat} {xs : List Int} (h1 : w.ownsRow 0 31 1 (.slice sa xs.length ca) xs.length (xs.map (Value.int .u64))) (h2 : w.ownsRow 0 31 1 (.slice sb xs.length cb) xs.length (xs.map (Value.int .u64))) (hl : xs.length ≤ 1000000) :
    Calls Try.prog 22 #[.slice sa xs.length ca, .slice sb xs.length cb] w fun e w' => e = .returned (.bool true) ∧ Mod No w w' := by
  have HS : Hid (∀ (j : Nat) x, xs[j]? = some x → ∃ g g', sa = some ⟨g, 0, none⟩ ∧ sb = some ⟨g', 0, none⟩ ∧ w.cell? ⟨g, j, none⟩ = some (.int .u64 x) ∧ w.cell? ⟨g', j, none⟩ = some (.int .u64 x)) := by
    intro j x hx
    have hjl := (List.getElem?_eq_some_iff.1 hx).1
    obtain ⟨g, cap', hv⟩ := Joins.ownsRow_form h1 (by omega)
    obtain ⟨g', cap'', hv'⟩ := Joins.ownsRow_form h2 (by omega)
    simp only [Value.slice.injEq, true_and] at hv hv'
    obtain ⟨rfl, rfl⟩ := hv
    obtain ⟨rfl, rfl⟩ := hv'
    refine ⟨g, g', rfl, rfl, ?_, ?_⟩
    · rw [h1.cellAt _ (by omega), List.getElem?_map, hx]; rfl
    · rw [h2.cellAt _ (by omega), List.getElem?_map, hx]; rfl
  obtain ⟨n, hn⟩ : ∃ n, xs.length = n := ⟨_, rfl⟩
  have HN := Lib.hid hn
  rw [hn] at hl ⊢
  have bn : ((n : Int) != n) = false := bneF rfl
  clear h1 h2 hn
  go_enter Try.func22, Try.ntmps22
  go_wp2_with fail
  go_loopw [5] (fun i wr => ∃ j : Nat, j ≤ n ∧ i = .int .i64 j ∧ ∃ nq, wr = w.drewN nq) (fun i _ => n - (intOf i).toNat)
  case atStart => exact ⟨0, Nat.zero_le _, rfl, 0, rfl⟩
  case round =>
    obtain ⟨j, hj, rfl, nq, rfl⟩ := hrel
    by_cases hlt : j < n
    · have hx := List.getElem?_eq_getElem (show j < xs.length by rw [HN.out]; exact hlt)
      obtain ⟨g, g', rfl, rfl, c1, c2⟩ := HS.out j _ hx
      have hlt' : (j : Int) < (n : Int) := by omega
      have hj0 : (0 : Int) ≤ (j : Int) := by omega
      generalize xs[j]'(by rw [HN.out]; exact hlt) = x at *
      have bx : (x != x) = false := bneF rfl
      clear hx HS
      go_wp2_with fail
      go_quiet (fail)
      go_wp2
      go_roundw
      case rel => exact ⟨j + 1, by omega, by go_num, _, rfl⟩
      case measure => simp [intOf]; omega
    · obtain rfl : j = n := by omega
      clear HS
      go_wp2
      go_ret
      exact ⟨rfl, ⟨rfl, rfl, rfl, Nat.le_refl _, fun _ _ _ => rfl⟩⟩
end Go.Proofs.Ytbcecgbnnpbjbaa
