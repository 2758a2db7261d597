/- loftlaw05.play, walked: a call on a table and on the reference's table answers the same. Conditions: both are one plain table; handles are 64-bit words, at most 200 of them were told. -/
import Derived.Test.YtbcecgbnnpbjbaaHandleSep
import Derived.Deep.RegionHeld3
namespace Go.Proofs.Ytbcecgbnnpbjbaa
open Go Go.RowKit

variable {w0 w : World}

/-- What a play leaves. -/
def PlayPost (w0 : World) (t b L : Nat) (e : Ending) (w' : World) : Prop := ∃ (T : HTbl) (sa : Option Addr) (cap : Nat) (ls : List Int), e = .returned (.tuple #[.slice sa ls.length cap, .bool true]) ∧
  Sep No w0 w' [tabR t T, rtabR b T, intsAt 31 .u64 (.slice sa ls.length cap) ls] ∧ (∀ x ∈ ls, 0 ≤ x ∧ x < 18446744073709551616) ∧ ls.length ≤ L + 1

theorem first3 {R1 R2 R3 : Res} {Qs : List Res} (h : Sep No w0 w (R1 :: R2 :: R3 :: Qs)) : Sep No w0 w [R1, R2, R3] := Sep.left (Ps := [R1, R2, R3]) h

section
variable {t b L cap : Nat} {T : HTbl} {sa : Option Addr} {ls : List Int}


set_option maxRecDepth 100000 in
theorem play_open (h : Sep No w0 w [tabR t T, rtabR b T, intsAt 31 .u64 (.slice sa L cap) ls]) (hl : ls.length = L) (hb : L ≤ 200) (hx : ∀ x ∈ ls, 0 ≤ x ∧ x < 18446744073709551616) (n a hd : Int)
    (hn : -9223372036854775808 ≤ n ∧ n ≤ 9223372036854775807) (ha : a ≤ 9223372036854775807) :
    Calls Try.prog 21 #[.pointer (some ⟨t, 0, none⟩), .pointer (some ⟨b, 0, none⟩), .slice sa L cap, .agg #[.int .i64 1, .int .i64 n, .int .i64 a, .int .u64 hd]] w (PlayPost w0 t b L) := by
  obtain ⟨d, hd1⟩ : ∃ d : Int, d = 1 := ⟨_, rfl⟩
  rw [← hd1]
  have hdb : (d == 1) = true := beqT hd1
  clear hd1
  rcases r : T.open' a with ⟨nm, er, T'⟩
  have hrr := HTbl.open_range (h.tabOk 0 rfl) a
  rw [r] at hrr
  have HRR := Lib.hid (And.intro hrr r)
  obtain ⟨i0, hi0, hz0, hz1, hz2⟩ := info_parts infoHandle2
  have HI := Lib.hid (And.intro hi0 (And.intro hz0 (And.intro hz1 hz2)))
  clear hrr r hi0 hz0 hz1 hz2
  obtain ⟨hL0, hL1⟩ := Int.le_antisymm_iff.1 (show (ls.length : Int) = L by omega)
  have hB : Sep No w0 (w.alloc (.cells #[.int .i64 d, .int .i64 n, .int .i64 a, .int .u64 hd] 39)) [tabR t T, rtabR b T, intsAt 31 .u64 (.slice sa L cap) ls, cellsAt w.heap.size #[.int .i64 d, .int .i64 n, .int .i64 a, .int .u64 hd] 39] := h.pushCells _ _
  have HK := Lib.hid (hB.nth 2 rfl hl (by omega) hx n hn)
  have hT := h.tabOk 0 rfl
  obtain ⟨o, ho⟩ : ∃ o, w.heap.size = o := ⟨_, rfl⟩
  rw [ho] at hB
  have HP := Lib.hid (And.intro hB (And.intro hl (And.intro hx hT)))
  have HO := Lib.hid ho
  clear hl hx hn h hB hL0 hL1 ho hT
  go_enter Try.func21, Try.ntmps21
  go_wp2_with fail
  refine HK.out.mono ?_
  rintro e w1 ⟨⟨x, rfl, x0, x1⟩, rfl⟩
  have c1 := (HP.out.1.tOpen 0 rfl a ha HRR.out.2)
  go_wp2_with fail
  refine c1.mono ?_
  rintro e w1 ⟨rfl, h1⟩
  have h1 : Sep No w0 w1 [tabR t T', rtabR b T, intsAt 31 .u64 (.slice sa L cap) ls, cellsAt o #[.int .i64 d, .int .i64 n, .int .i64 a, .int .u64 hd] 39] := h1
  have k2 := (h1.cell 3 rfl 2 (v := .int .i64 a) rfl).1
  have c2 := h1.rOpen 1 rfl HP.out.2.2.2 a ha HRR.out.2
  have hoo := HO.out
  clear c1 h1
  go_wp2_with fail
  refine c2.mono ?_
  rintro e w2 ⟨rfl, h2⟩
  have h2 : Sep No w0 w2 [tabR t T', rtabR b T', intsAt 31 .u64 (.slice sa L cap) ls, cellsAt o #[.int .i64 d, .int .i64 n, .int .i64 a, .int .u64 hd] 39] := h2
  clear c2 k2 hoo
  have q1 : (nm == nm) = true := beqT rfl
  have q2 : (er == er) = true := beqT rfl
  by_cases he : er = 0
  · have heb : (er == 0) = true := beqT he
    clear he
    have hE : Sep No w0 (w2.alloc (.cells #[] 31)) [tabR t T', rtabR b T', intsAt 31 .u64 (.slice sa L cap) ls, cellsAt o #[.int .i64 d, .int .i64 n, .int .i64 a, .int .u64 hd] 39, rowAt 31 1 (.slice (some ⟨w2.heap.size, 0, none⟩) 0 0) 0 []] := h2.pushEmpty _ _
    have hr := hE.row 2 rfl
    obtain ⟨_, hl, hx, _⟩ := HP.out
    rw [hl] at hr
    have hsrc := srcOf_row hr (by simp [Value.oneCell'])
    have HX := Lib.hid (And.intro hl hx)
    obtain ⟨hi0, hz0, hz1, hz2⟩ := HI.out
    clear hr hl hx h2
    go_wp2_with (at_builtin; refine wpList_append_src hE 4 rfl (by rfl) _ _ 29 rfl Try.underlying29 hi0 hz0 hz1 hz2 rfl (by decide) (by rfl) _ (by rfl) hsrc (by unfold maxLen; omega) (by omega) ?_)
    intro sb cap2 w3 h3
    clear hE hsrc
    go_wp2_with (at_builtin; refine wpList_append_sep1 h3 4 (by rfl) (by rfl) _ _ 29 rfl Try.underlying29 hi0 hz0 hz1 hz2 rfl (by rfl) _ _ (by rfl) (by simp) (by rfl) _ (by unfold maxLen; omega) (by omega) ?_)
    intro gg capg w4 h4
    have H := Lib.hid h4
    clear h3 h4 hi0 hz0 hz1 hz2
    go_wp2
    go_ret2
    obtain ⟨hl, hx⟩ := HX.out
    subst hl
    have h4 := H.out
    refine ⟨T', some ⟨gg, 0, none⟩, capg, ls ++ [nm], by simp, ?_, fun x hxm => ?_, by simp⟩
    · rw [intsAt, List.map_append, List.length_append]
      exact h4.pick (fun i => if i = 2 then 4 else i) (fun i hi => by match i, hi with | 0, _ => rfl | 1, _ => rfl | 2, _ => rfl) (fun i j hi hj hij => by
        simp only [List.length_cons, List.length_nil] at hi hj
        split <;> split <;> omega)
    · rcases List.mem_append.1 hxm with hm | hm
      · exact hx x hm
      · simp at hm; subst hm; exact HRR.out.1
  · have heb : (er == 0) = false := beqF he
    clear he
    have H := Lib.hid h2
    clear h2
    go_wp2
    go_ret2
    obtain ⟨_, hl, hx, _⟩ := HP.out
    subst hl
    exact ⟨T', sa, cap, ls, rfl, first3 H.out, hx, by omega⟩


set_option maxRecDepth 100000 in
theorem play_at (h : Sep No w0 w [tabR t T, rtabR b T, intsAt 31 .u64 (.slice sa L cap) ls]) (hl : ls.length = L) (hb : L ≤ 200) (hx : ∀ x ∈ ls, 0 ≤ x ∧ x < 18446744073709551616) (d n a hd : Int)
    (hn : -9223372036854775808 ≤ n ∧ n ≤ 9223372036854775807) (hh : 0 ≤ hd ∧ hd < 18446744073709551616) (hd25 : d = 2 ∨ d = 5) :
    Calls Try.prog 21 #[.pointer (some ⟨t, 0, none⟩), .pointer (some ⟨b, 0, none⟩), .slice sa L cap, .agg #[.int .i64 d, .int .i64 n, .int .i64 a, .int .u64 hd]] w (PlayPost w0 t b L) := by
  rcases hd25 with hd2 | hd5
  · have q2 : (d == 2) = true := beqT hd2
    have q1 : (d == 1) = false := beqF (by omega)
    have q5 : (d == 5) = false := beqF (by omega)
    clear hd2
    obtain ⟨hL0, hL1⟩ := Int.le_antisymm_iff.1 (show (ls.length : Int) = L by omega)
    have hB : Sep No w0 (w.alloc (.cells #[.int .i64 d, .int .i64 n, .int .i64 a, .int .u64 hd] 39)) [tabR t T, rtabR b T, intsAt 31 .u64 (.slice sa L cap) ls, cellsAt w.heap.size #[.int .i64 d, .int .i64 n, .int .i64 a, .int .u64 hd] 39] := h.pushCells _ _
    have HK := Lib.hid (hB.nth 2 rfl hl (by omega) hx n hn)
    have hT := h.tabOk 0 rfl
    obtain ⟨o, ho⟩ : ∃ o, w.heap.size = o := ⟨_, rfl⟩
    rw [ho] at hB
    have HP := Lib.hid (And.intro hB (And.intro hl (And.intro hx hT)))
    have HO := Lib.hid ho
    clear hl hx hn h hB hL0 hL1 ho hT
    go_enter Try.func21, Try.ntmps21
    go_wp2_with fail
    refine HK.out.mono ?_
    rintro e w1 ⟨⟨x, rfl, x0, x1⟩, rfl⟩
    have c1 := HP.out.1.tAt 0 rfl x (by omega) (by omega) (show T.at' x = ((T.at' x).1, (T.at' x).2) from rfl)
    obtain ⟨ra, rc, r0, r1, r2, rr⟩ := HP.out.1.rFacts 1 rfl
    have c2 := rat_call rr HP.out.2.2.2 x (by omega) (by omega)
    have q1 : ((T.at' x).1 == (T.at' x).1) = true := beqT rfl
    have q2 : ((T.at' x).2 == (T.at' x).2) = true := beqT rfl
    generalize (T.at' x).1 = y1 at *
    generalize (T.at' x).2 = y2 at *
    have hoo := HO.out
    clear rr
    go_wp2_with fail
    refine c1.mono ?_
    rintro e w1 ⟨rfl, rfl⟩
    clear c1
    go_wp2_with fail
    refine c2.mono ?_
    rintro e w2 ⟨rfl, hm⟩
    have H := Lib.hid (HP.out.1.more hm)
    clear c2 hm r0 r1 r2 hoo
    go_wp2
    go_ret2
    obtain ⟨_, hl, hx, _⟩ := HP.out
    subst hl
    exact ⟨T, sa, cap, ls, rfl, first3 H.out, hx, by omega⟩
  · have q2 : (d == 2) = false := beqF (by omega)
    have q1 : (d == 1) = false := beqF (by omega)
    have q5 : (d == 5) = true := beqT hd5
    clear hd5
    obtain ⟨hL0, hL1⟩ := Int.le_antisymm_iff.1 (show (ls.length : Int) = L by omega)
    have hB : Sep No w0 (w.alloc (.cells #[.int .i64 d, .int .i64 n, .int .i64 a, .int .u64 hd] 39)) [tabR t T, rtabR b T, intsAt 31 .u64 (.slice sa L cap) ls, cellsAt w.heap.size #[.int .i64 d, .int .i64 n, .int .i64 a, .int .u64 hd] 39] := h.pushCells _ _
    have HK := Lib.hid (hB.nth 2 rfl hl (by omega) hx n hn)
    have hT := h.tabOk 0 rfl
    obtain ⟨o, ho⟩ : ∃ o, w.heap.size = o := ⟨_, rfl⟩
    rw [ho] at hB
    have HP := Lib.hid (And.intro hB (And.intro hl (And.intro hx hT)))
    have HO := Lib.hid ho
    clear hl hx hn h hB hL0 hL1 ho hT
    go_enter Try.func21, Try.ntmps21
    go_wp2_with fail
    refine HK.out.mono ?_
    rintro e w1 ⟨⟨x, rfl, x0, x1⟩, rfl⟩
    obtain ⟨hh0, hh1⟩ := hh
    have c1 := HP.out.1.tAt 0 rfl hd (by omega) (by omega) (show T.at' hd = ((T.at' hd).1, (T.at' hd).2) from rfl)
    obtain ⟨ra, rc, r0, r1, r2, rr⟩ := HP.out.1.rFacts 1 rfl
    have c2 := rat_call rr HP.out.2.2.2 hd (by omega) (by omega)
    have q1 : ((T.at' hd).1 == (T.at' hd).1) = true := beqT rfl
    have q2 : ((T.at' hd).2 == (T.at' hd).2) = true := beqT rfl
    generalize (T.at' hd).1 = y1 at *
    generalize (T.at' hd).2 = y2 at *
    have hoo := HO.out
    clear rr
    go_wp2_with fail
    refine c1.mono ?_
    rintro e w1 ⟨rfl, rfl⟩
    clear c1
    go_wp2_with fail
    refine c2.mono ?_
    rintro e w2 ⟨rfl, hm⟩
    have H := Lib.hid (HP.out.1.more hm)
    clear c2 hm r0 r1 r2 hoo
    go_wp2
    go_ret2
    obtain ⟨_, hl, hx, _⟩ := HP.out
    subst hl
    exact ⟨T, sa, cap, ls, rfl, first3 H.out, hx, by omega⟩

set_option maxRecDepth 100000 in
theorem play_move (h : Sep No w0 w [tabR t T, rtabR b T, intsAt 31 .u64 (.slice sa L cap) ls]) (hl : ls.length = L) (hb : L ≤ 200) (hx : ∀ x ∈ ls, 0 ≤ x ∧ x < 18446744073709551616) (n a hd : Int)
    (hn : -9223372036854775808 ≤ n ∧ n ≤ 9223372036854775807) (ha : a ≤ 9223372036854775807) :
    Calls Try.prog 21 #[.pointer (some ⟨t, 0, none⟩), .pointer (some ⟨b, 0, none⟩), .slice sa L cap, .agg #[.int .i64 3, .int .i64 n, .int .i64 a, .int .u64 hd]] w (PlayPost w0 t b L) := by
  obtain ⟨d, hd1⟩ : ∃ d : Int, d = 3 := ⟨_, rfl⟩
  rw [← hd1]
  have q3 : (d == 3) = true := beqT hd1
  have q1 : (d == 1) = false := beqF (by omega)
  have q2 : (d == 2) = false := beqF (by omega)
  have q5 : (d == 5) = false := beqF (by omega)
  clear hd1
  obtain ⟨hL0, hL1⟩ := Int.le_antisymm_iff.1 (show (ls.length : Int) = L by omega)
  have hB : Sep No w0 (w.alloc (.cells #[.int .i64 d, .int .i64 n, .int .i64 a, .int .u64 hd] 39)) [tabR t T, rtabR b T, intsAt 31 .u64 (.slice sa L cap) ls, cellsAt w.heap.size #[.int .i64 d, .int .i64 n, .int .i64 a, .int .u64 hd] 39] := h.pushCells _ _
  have HK := Lib.hid (hB.nth 2 rfl hl (by omega) hx n hn)
  have hT := h.tabOk 0 rfl
  obtain ⟨o, ho⟩ : ∃ o, w.heap.size = o := ⟨_, rfl⟩
  rw [ho] at hB
  have HP := Lib.hid (And.intro hB (And.intro hl (And.intro hx hT)))
  have HO := Lib.hid ho
  clear hl hx hn h hB hL0 hL1 ho hT
  go_enter Try.func21, Try.ntmps21
  go_wp2_with fail
  refine HK.out.mono ?_
  rintro e w1 ⟨⟨x, rfl, x0, x1⟩, rfl⟩
  have hB := HP.out.1.drew
  rcases r : T.move x a with ⟨er, T'⟩
  have c1 := hB.tMove 0 rfl x a x0 x1 ha r
  have HR := Lib.hid r
  have k2 := (HP.out.1.cell 3 rfl 2 (v := .int .i64 a) rfl).1
  have q4 : (er == er) = true := beqT rfl
  have hoo := HO.out
  clear hB r
  go_wp2_with fail
  go_region_held3 (fun w' => w'.cell? ⟨o, 2, none⟩ = some (.int .i64 a)) (first | exact k2 | exact l2 | exact m2)
    (first
      | (go_at_call 16; refine c1.mono ?_; rintro e w2 ⟨rfl, h2⟩; have l2 := (h2.cell 3 rfl 2 (v := .int .i64 a) rfl).1)
      | (go_at_call 31; refine (h2.rMove 1 rfl HP.out.2.2.2 x a x0 x1 HR.out).mono ?_; rintro e w3 ⟨rfl, h3⟩; have m2 := (h3.cell 3 rfl 2 (v := .int .i64 a) rfl).1))
  have H := Lib.hid h3
  clear c1 h2 h3 k2 l2 m2 hoo
  go_wp2
  go_ret2
  obtain ⟨_, hl, hx, _⟩ := HP.out
  subst hl
  exact ⟨T', sa, cap, ls, rfl, first3 H.out, hx, by omega⟩

set_option maxRecDepth 100000 in
theorem play_close (h : Sep No w0 w [tabR t T, rtabR b T, intsAt 31 .u64 (.slice sa L cap) ls]) (hl : ls.length = L) (hb : L ≤ 200) (hx : ∀ x ∈ ls, 0 ≤ x ∧ x < 18446744073709551616) (n a hd : Int)
    (hn : -9223372036854775808 ≤ n ∧ n ≤ 9223372036854775807) :
    Calls Try.prog 21 #[.pointer (some ⟨t, 0, none⟩), .pointer (some ⟨b, 0, none⟩), .slice sa L cap, .agg #[.int .i64 4, .int .i64 n, .int .i64 a, .int .u64 hd]] w (PlayPost w0 t b L) := by
  obtain ⟨d, hd1⟩ : ∃ d : Int, d = 4 := ⟨_, rfl⟩
  rw [← hd1]
  have q3 : (d == 3) = false := beqF (by omega)
  have q4 : (d == 4) = true := beqT hd1
  have q1 : (d == 1) = false := beqF (by omega)
  have q2 : (d == 2) = false := beqF (by omega)
  have q5 : (d == 5) = false := beqF (by omega)
  clear hd1
  obtain ⟨hL0, hL1⟩ := Int.le_antisymm_iff.1 (show (ls.length : Int) = L by omega)
  have hB : Sep No w0 (w.alloc (.cells #[.int .i64 d, .int .i64 n, .int .i64 a, .int .u64 hd] 39)) [tabR t T, rtabR b T, intsAt 31 .u64 (.slice sa L cap) ls, cellsAt w.heap.size #[.int .i64 d, .int .i64 n, .int .i64 a, .int .u64 hd] 39] := h.pushCells _ _
  have HK := Lib.hid (hB.nth 2 rfl hl (by omega) hx n hn)
  have hT := h.tabOk 0 rfl
  obtain ⟨o, ho⟩ : ∃ o, w.heap.size = o := ⟨_, rfl⟩
  rw [ho] at hB
  have HP := Lib.hid (And.intro hB (And.intro hl (And.intro hx hT)))
  have HO := Lib.hid ho
  clear hl hx hn h hB hL0 hL1 ho hT
  go_enter Try.func21, Try.ntmps21
  go_wp2_with fail
  refine HK.out.mono ?_
  rintro e w1 ⟨⟨x, rfl, x0, x1⟩, rfl⟩
  rcases r : T.close x with ⟨er, T'⟩
  have c1 := HP.out.1.tClose 0 rfl x x0 x1 r
  have HR := Lib.hid r
  have q6 : (er == er) = true := beqT rfl
  have hoo := HO.out
  clear r
  go_wp2_with fail
  refine c1.mono ?_
  rintro e w2 ⟨rfl, h2⟩
  have c2 := h2.rClose 1 rfl HP.out.2.2.2 x x0 x1 HR.out
  clear c1 h2
  go_wp2_with fail
  refine c2.mono ?_
  rintro e w3 ⟨rfl, h3⟩
  have H := Lib.hid h3
  clear c2 h3 hoo
  go_wp2
  go_ret2
  obtain ⟨_, hl, hx, _⟩ := HP.out
  subst hl
  exact ⟨T', sa, cap, ls, rfl, first3 H.out, hx, by omega⟩

set_option maxRecDepth 100000 in
theorem play_else (h : Sep No w0 w [tabR t T, rtabR b T, intsAt 31 .u64 (.slice sa L cap) ls]) (hl : ls.length = L) (hb : L ≤ 200) (hx : ∀ x ∈ ls, 0 ≤ x ∧ x < 18446744073709551616) (d n a hd : Int)
    (hn : -9223372036854775808 ≤ n ∧ n ≤ 9223372036854775807) (hne : d ≠ 1 ∧ d ≠ 2 ∧ d ≠ 3 ∧ d ≠ 4 ∧ d ≠ 5) :
    Calls Try.prog 21 #[.pointer (some ⟨t, 0, none⟩), .pointer (some ⟨b, 0, none⟩), .slice sa L cap, .agg #[.int .i64 d, .int .i64 n, .int .i64 a, .int .u64 hd]] w (PlayPost w0 t b L) := by
  have q3 : (d == 3) = false := beqF (by omega)
  have q4 : (d == 4) = false := beqF (by omega)
  have q1 : (d == 1) = false := beqF (by omega)
  have q2 : (d == 2) = false := beqF (by omega)
  have q5 : (d == 5) = false := beqF (by omega)
  clear hne
  obtain ⟨hL0, hL1⟩ := Int.le_antisymm_iff.1 (show (ls.length : Int) = L by omega)
  have hB : Sep No w0 (w.alloc (.cells #[.int .i64 d, .int .i64 n, .int .i64 a, .int .u64 hd] 39)) [tabR t T, rtabR b T, intsAt 31 .u64 (.slice sa L cap) ls, cellsAt w.heap.size #[.int .i64 d, .int .i64 n, .int .i64 a, .int .u64 hd] 39] := h.pushCells _ _
  have HK := Lib.hid (hB.nth 2 rfl hl (by omega) hx n hn)
  have hT := h.tabOk 0 rfl
  obtain ⟨o, ho⟩ : ∃ o, w.heap.size = o := ⟨_, rfl⟩
  rw [ho] at hB
  have HP := Lib.hid (And.intro hB (And.intro hl (And.intro hx hT)))
  have HO := Lib.hid ho
  clear hl hx hn h hB hL0 hL1 ho hT
  go_enter Try.func21, Try.ntmps21
  go_wp2_with fail
  refine HK.out.mono ?_
  rintro e w1 ⟨⟨x, rfl, x0, x1⟩, rfl⟩
  have hoo := HO.out
  go_wp2
  go_ret2
  obtain ⟨hB, hl, hx, _⟩ := HP.out
  subst hl
  exact ⟨T, sa, cap, ls, rfl, first3 hB, hx, by omega⟩

theorem play_call (h : Sep No w0 w [tabR t T, rtabR b T, intsAt 31 .u64 (.slice sa L cap) ls]) (hl : ls.length = L) (hb : L ≤ 200) (hx : ∀ x ∈ ls, 0 ≤ x ∧ x < 18446744073709551616) (d n a hd : Int)
    (hn : -9223372036854775808 ≤ n ∧ n ≤ 9223372036854775807) (ha : a ≤ 9223372036854775807) (hh : 0 ≤ hd ∧ hd < 18446744073709551616) :
    Calls Try.prog 21 #[.pointer (some ⟨t, 0, none⟩), .pointer (some ⟨b, 0, none⟩), .slice sa L cap, .agg #[.int .i64 d, .int .i64 n, .int .i64 a, .int .u64 hd]] w (PlayPost w0 t b L) := by
  by_cases d1 : d = 1
  · subst d1; exact play_open h hl hb hx n a hd hn ha
  by_cases d2 : d = 2 ∨ d = 5
  · exact play_at h hl hb hx d n a hd hn hh d2
  by_cases d3 : d = 3
  · subst d3; exact play_move h hl hb hx n a hd hn ha
  by_cases d4 : d = 4
  · subst d4; exact play_close h hl hb hx n a hd hn
  exact play_else h hl hb hx d n a hd hn (by omega)
end
end Go.Proofs.Ytbcecgbnnpbjbaa
