/- HandlePlays, walked. No condition. -/
import Derived.Test.YtbcecgbnnpbjbaaHandlePlay
namespace Go.Proofs.Ytbcecgbnnpbjbaa
open Go Go.RowKit

theorem rtab_shut_at {F0 : Nat → Prop} {w0 w : World} {A C : Res} {Qs : List Res} {b : Nat} {T : HTbl} {v : Value}
    (h : Sep F0 w0 w (A :: cellsAt b #[.int .i64 T.most, .int .u32 T.last, v] 50 :: C :: rowAt 81 3 v T.l.length (rrow T.l) :: Qs)) : Sep F0 w0 w [A, rtabR b T, C] := by
  have h : Sep F0 w0 w [A, cellsAt b #[.int .i64 T.most, .int .u32 T.last, v] 50, C, rowAt 81 3 v T.l.length (rrow T.l)] := Sep.left (Ps := [_, _, _, _]) h
  exact (h.shutStar 1 3 (by decide) rfl rfl rfl).shutEx 1 (fun v => starR (cellsAt b #[.int .i64 T.most, .int .u32 T.last, v] 50) (rowAt 81 3 v T.l.length (rrow T.l))) v rfl

theorem rtab_open_at {F0 : Nat → Prop} {w0 w : World} {A C : Res} {b : Nat} {T : HTbl} (h : Sep F0 w0 w [A, rtabR b T, C]) :
    ∃ ra rc, Sep F0 w0 w [A, cellsAt b #[.int .i64 T.most, .int .u32 T.last, .slice ra T.l.length rc] 50, C, rowAt 81 3 (.slice ra T.l.length rc) T.l.length (rrow T.l)] := by
  obtain ⟨v, h⟩ := h.openEx 1 rfl
  have h : Sep F0 w0 w [A, cellsAt b #[.int .i64 T.most, .int .u32 T.last, v] 50, C, rowAt 81 3 v T.l.length (rrow T.l)] := h.openStar 1 rfl
  obtain ⟨sa, cap, rfl⟩ := h.form 3 rfl
  exact ⟨sa, cap, h⟩

def PlaysRel (w : World) (b j : Nat) (l : Value) (wr : World) : Prop := ∃ (T : HTbl) (sa : Option Addr) (cap : Nat) (ls : List Int), l = .slice sa ls.length cap ∧
  Sep No w wr [tabR w.heap.size T, rtabR b T, intsAt 31 .u64 (.slice sa ls.length cap) ls] ∧ (∀ x ∈ ls, 0 ≤ x ∧ x < 18446744073709551616) ∧ ls.length ≤ j

set_option maxRecDepth 100000 in
set_option maxHeartbeats 1000000 in
theorem plays_in (m l : Int) (s1 : Option Addr) (len1 cap1 : Nat) (z1 : List (List Int)) (w : World) (hm : 1 ≤ m ∧ m ≤ 65536 ∧ 1 ≤ l) (hl : l ≤ 4294967295) (R : Recs w s1 len1 [some .i64, some .i64, some .i64, some .u64] z1) (hlen : len1 ≤ 200) :
    Calls Try.prog 7 #[.int .i64 m, .int .u32 l, .slice s1 len1 cap1] w fun e w' => e = .returned (.bool true) ∧ Below w.heap.size w w' := by
  have d200 : decide ((200 : Int) < (len1 : Int)) = false := ltF (by omega)
  have hc := new_ok w m l hm.1 hm.2.1 hm.2.2 hl
  have hr := fun W => rnew_ok m l hm.1 hm.2.1 hm.2.2 W
  have HR := Lib.hid R
  have H2 := Lib.hid hr
  clear R hm hr
  go_enter Try.func7, Try.ntmps7
  go_wp2_with fail
  refine hc.mono ?_
  rintro e w1 ⟨rfl, hT0, hM0⟩
  have h0 : Sep No w w1 [tabR w.heap.size ⟨m, l, []⟩] := (Sep.nil w).tNew hT0 hM0
  clear hc hT0 hM0
  go_wp2_with fail
  refine (H2.out _).mono ?_
  rintro e w2 ⟨rfl, hM⟩
  have h1 := h0.more hM
  have h2 : Sep No w (w2.alloc (.cells #[.int .i64 m, .int .u32 l, .slice none 0 0] 50)) [tabR w.heap.size ⟨m, l, []⟩, cellsAt w2.heap.size #[.int .i64 m, .int .u32 l, .slice none 0 0] 50, rowAt 81 3 (.slice none 0 0) 0 []] := (h1.pushCells _ _).pushNil _ _
  have h3 : Sep No w (w2.alloc (.cells #[.int .i64 m, .int .u32 l, .slice none 0 0] 50)) [tabR w.heap.size ⟨m, l, []⟩, rtabR w2.heap.size ⟨m, l, []⟩, intsAt 31 .u64 (.slice none 0 0) []] :=
    ((h2.shutStar 1 2 (by decide) rfl rfl rfl).shutEx 1 (fun v => starR (cellsAt w2.heap.size #[.int .i64 m, .int .u32 l, v] 50) (rowAt 81 3 v ([] : List HSlot).length (rrow []))) (.slice none 0 0) rfl).pushNil _ _
  have hst := Lib.hid (show PlaysRel w w2.heap.size 0 (.slice none 0 0) (w2.alloc (.cells #[.int .i64 m, .int .u32 l, .slice none 0 0] 50)) from ⟨_, none, 0, [], rfl, h3, by simp, Nat.le_refl _⟩)
  obtain ⟨b, hb⟩ : ∃ b, w2.heap.size = b := ⟨_, rfl⟩
  rw [hb] at hst
  clear h0 hM h1 h2 h3 H2
  go_wp2_with fail
  clear hb
  go_loopw [11, 12] (fun l i wr => ∃ j : Nat, i = .int .i64 j ∧ j ≤ len1 ∧ PlaysRel w b j l wr) (fun _ i _ => len1 - (intOf i).toNat)
  case atStart => exact ⟨0, rfl, Nat.zero_le _, hst.out⟩
  case round =>
    obtain ⟨j, rfl, hj, T, sl, capl, ls, rfl, h, hx, hjl⟩ := hrel
    clear hst
    by_cases hlt : j < len1
    · obtain ⟨bb, off, rfl, hb, hc⟩ := HR.out.cells (by omega)
      have hzj : z1[j]? = some (z1[j]'(by rw [HR.out.count]; exact hlt)) := List.getElem?_eq_getElem _
      obtain ⟨hrl, hro⟩ := HR.out.ok _ (List.mem_of_getElem? hzj)
      generalize z1[j]'(by rw [HR.out.count]; exact hlt) = r at *
      match r, hrl with
      | [d, n, a, hd], _ =>
      have c0 := h.old (hc j _ hzj 0 _ d rfl rfl)
      have c1 := h.old (hc j _ hzj 1 _ n rfl rfl)
      have c2 := h.old (hc j _ hzj 2 _ a rfl rfl)
      have c3 := h.old (hc j _ hzj 3 _ hd rfl rfl)
      have hn := bounds_i64 (hro 1 _ n rfl rfl)
      have ha := bounds_i64 (hro 2 _ a rfl rfl)
      have hh := bounds_u64 (hro 3 _ hd rfl rfl)
      simp only [List.length_cons, List.length_nil, Nat.add_zero, Nat.zero_add, Nat.reduceAdd, fv] at c0 c1 c2 c3
      have hp := play_call h rfl (by omega) hx d n a hd hn ha.2 ⟨hh.1, by omega⟩
      have HX := Lib.hid hjl
      obtain ⟨L, hL⟩ : ∃ L, ls.length = L := ⟨_, rfl⟩
      rw [hL] at hp HX ⊢
      clear hc hzj hro hb hn ha hh h hx hL hjl
      go_wp2_with fail
      refine hp.mono ?_
      rintro e w3 ⟨T1, sl1, capl1, ls1, rfl, h3, hx1, hl1⟩
      have hT1 := Lib.hid (h3.tabOk 0 rfl)
      obtain ⟨ra, rc, h3⟩ := rtab_open_at h3
      have c1 := h3.drew.tLive 0 rfl
      have k0 := (h3.cell 1 rfl 0 (v := .int .i64 T1.most) rfl).1
      have k1 := (h3.cell 1 rfl 1 (v := .int .u32 T1.last) rfl).1
      have k2 := (h3.cell 1 rfl 2 (v := .slice ra T1.l.length rc) rfl).1
      have HY := Lib.hid (And.intro hx1 hl1)
      have HL := Lib.hid (show T1.live.length ≤ 1000000 from by
        have h1 := HTbl.liveTo_le T1 T1.l.length
        have h2 := hT1.out.len
        have h3 := hT1.out.most2
        unfold HTbl.live
        omega)
      have q1 : ((T1.l.length : Int) != (T1.l.length : Int)) = false := bneF rfl
      clear hp hx1 hl1 h3
      go_wp2_with fail
      go_region_held3 (fun w' => w'.cell? ⟨b, 0, none⟩ = some (.int .i64 T1.most) ∧ w'.cell? ⟨b, 1, none⟩ = some (.int .u32 T1.last) ∧ w'.cell? ⟨b, 2, none⟩ = some (.slice ra T1.l.length rc))
        (first | exact ⟨k0, k1, k2⟩ | exact ⟨n0, n1, n2⟩ | exact ⟨m0, m1, m2⟩ | exact ⟨l0, l1, l2⟩)
        (first
          | (go_at_call 18; refine c1.mono ?_; rintro e w4 ⟨sa4, cap4, rfl, h4⟩; have l0 := (h4.cell 1 rfl 0 (v := .int .i64 T1.most) rfl).1; have l1 := (h4.cell 1 rfl 1 (v := .int .u32 T1.last) rfl).1; have l2 := (h4.cell 1 rfl 2 (v := .slice ra T1.l.length rc) rfl).1)
          | (go_at_call 23; refine (rlive_call (h4.row 3 rfl) hT1.out).mono ?_; rintro e w5 ⟨sa5, cap5, rfl, h5⟩; have g5 := h4.more h5.mod; have m0 := (g5.cell 1 rfl 0 (v := .int .i64 T1.most) rfl).1; have m1 := (g5.cell 1 rfl 1 (v := .int .u32 T1.last) rfl).1; have m2 := (g5.cell 1 rfl 2 (v := .slice ra T1.l.length rc) rfl).1)
          | (go_at_call 22; refine (rsame_call (g5.row 4 rfl) (h5.row 0 rfl) HL.out).mono ?_; rintro e w6 ⟨rfl, hm6⟩; have g6 := g5.more hm6; have n0 := (g6.cell 1 rfl 0 (v := .int .i64 T1.most) rfl).1; have n1 := (g6.cell 1 rfl 1 (v := .int .u32 T1.last) rfl).1; have n2 := (g6.cell 1 rfl 2 (v := .slice ra T1.l.length rc) rfl).1)
          | (go_at_call 15; refine (g6.tUsed 0 rfl).mono ?_; rintro e w7 ⟨rfl, rfl⟩))
      have H := Lib.hid g6
      clear c1 k0 k1 k2 l0 l1 l2 m0 m1 m2 n0 n1 n2 h4 h5 g5 g6 hm6
      go_wp2
      go_roundw
      case rel => exact ⟨j + 1, by go_num, by omega, T1, sl1, capl1, ls1, rfl, rtab_shut_at H.out, HY.out.1, by have := HY.out.2; have := HX.out; omega⟩
      case measure => simp [intOf]; omega
    · have hje : j = len1 := by omega
      subst hje
      have H := Lib.hid h
      clear HR hx h
      go_wp2_with fail
      refine (awake_call _).mono ?_
      rintro e w3 ⟨rfl, hm⟩
      go_wp2
      go_ret
      exact ⟨rfl, (H.out.more hm).below⟩

set_option maxRecDepth 100000 in
theorem handlePlays_walk (a0 a1 : Int) (s2 : Option Addr) (len2 cap2 : Nat) (z2 : List (List Int)) (w : World) (_w0 : (Lit.int .i64 a0).wf = true) (w1 : (Lit.int .u32 a1).wf = true) (R : Recs w s2 len2 [some .i64, some .i64, some .i64, some .u64] z2) :
    Calls Try.prog 7 #[.int .i64 a0, .int .u32 a1, .slice s2 len2 cap2] w fun e w' => e = .returned (.bool true) ∧ Below w.heap.size w w' := by
  have ha := fun W => (awake_call W).mono (R' := fun e w' => e = .returned (.bool true) ∧ Mod No W w') fun e w' ⟨he, hm⟩ => ⟨he, hm⟩
  have hb := bounds_u32 w1
  by_cases hl : len2 ≤ 200
  · by_cases h : 1 ≤ a0 ∧ a0 ≤ 65536 ∧ 1 ≤ a1
    · exact plays_in a0 a1 s2 len2 cap2 z2 w h (by omega) R hl
    · have hc := new_no w a0 a1 h
      have hr := fun W => rnew_no a0 a1 h hb.1 W
      have d200 : decide ((200 : Int) < (len2 : Int)) = false := ltF (by omega)
      have H2 := Lib.hid hr
      have H3 := Lib.hid ha
      clear h R hr ha
      go_enter Try.func7, Try.ntmps7
      go_wp2_with fail
      refine hc.mono ?_
      rintro e w' ⟨rfl, rfl⟩
      go_wp2_with fail
      refine (H2.out _).mono ?_
      rintro e w2 ⟨rfl, hm⟩
      have H4 := Lib.hid ((Sep.nil w).more hm)
      clear hm hc
      go_wp2_with fail
      go_loopw [12] (fun i wr => i = .int .i64 0 ∧ Sep No w wr []) (fun _ _ => 0)
      case atStart => exact ⟨rfl, H4.out.alloc _⟩
      case round =>
        obtain ⟨rfl, h5⟩ := hrel
        have H5 := Lib.hid h5
        clear h5 H4
        go_wp2_with fail
        all_goals
          refine (H3.out _).mono ?_
          rintro e w3 ⟨rfl, hm⟩
          have H6 := Lib.hid ((H5.out.more hm))
          clear hm
          go_wp2
          go_ret
          exact ⟨rfl, H6.out.below⟩
  · have d200 : decide ((200 : Int) < (len2 : Int)) = true := ltT (by omega)
    have H3 := Lib.hid ha
    clear R ha
    go_enter Try.func7, Try.ntmps7
    go_wp2_with fail
    refine (H3.out _).mono ?_
    rintro e w3 ⟨rfl, hm⟩
    have H6 := Lib.hid ((Sep.nil w).more hm)
    clear hm
    go_wp2
    go_ret
    exact ⟨rfl, H6.out.below⟩
end Go.Proofs.Ytbcecgbnnpbjbaa
