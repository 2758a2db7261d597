/- The reference of layer 5 (loftref05): Open, walked. Conditions: the table in memory is as said; addresses are 64-bit ints. -/
import Derived.Test.YtbcecgbnnpbjbaaHandleRef2
namespace Go.Proofs.Ytbcecgbnnpbjbaa
open Go Go.RowKit

variable {F : Nat → Prop} {w0 w : World}

theorem rrow_set {l : List HSlot} {k : Nat} (h : k < l.length) (s : HSlot) (hs : s.is = 1) : rrow (l.set k s) = (((rrow l).set (k * 3) (.bool true)).set (k * 3 + 1) (.int .u32 s.gen)).set (k * 3 + 2) (.int .i64 s.addr) :=
  flat_set3 rcell_len l k s h rfl (by simp [rcell, hs])
theorem rrow_push (l : List HSlot) (s : HSlot) (hs : s.is = 1) : rrow (l ++ [s]) = rrow l ++ [.bool true, .int .u32 s.gen, .int .i64 s.addr] := by simp [rrow, rcell, hs]


theorem ropen_neg {b : Nat} (w : World) (a : Int) (ha : a < 0) :
    Calls Try.prog 29 #[.pointer (some ⟨b, 0, none⟩), .int .i64 a] w fun e w' => e = .returned (.tuple #[.int .u64 0, .int .i64 2]) ∧ w = w' := by
  go_enter Try.func29, Try.ntmps29
  go_wp2
  go_ret2
  exact ⟨rfl, rfl⟩

set_option maxRecDepth 100000 in
set_option maxHeartbeats 1000000 in
theorem ropen_call {b : Nat} {T : HTbl} (h : Sep F w w [rtabR b T]) (hT : T.Ok) (a : Int) (a1 : a ≤ 9223372036854775807) :
    Calls Try.prog 29 #[.pointer (some ⟨b, 0, none⟩), .int .i64 a] w fun e w' => e = .returned (.tuple #[.int .u64 (T.open' a).1, .int .i64 (T.open' a).2.1]) ∧ Sep F w w' [rtabR b (T.open' a).2.2] := by
  have hlen : (T.l.length : Int) ≤ 65536 := by have := hT.len; have := hT.most2; omega
  by_cases ha : a < 0
  · have hv : T.open' a = (0, 2, T) := by unfold HTbl.open'; rw [if_pos ha]
    rw [hv]
    exact (ropen_neg w a ha).mono fun e w' ⟨he, hw⟩ => ⟨he, hw ▸ h⟩
  have ha' : 0 ≤ a := Int.not_lt.1 ha
  clear ha
  obtain ⟨sa, cap, h1⟩ := rtab_open h
  have c0 := (h1.cell 0 rfl 0 (v := .int .i64 T.most) rfl).1
  have c1 := (h1.cell 0 rfl 1 (v := .int .u32 T.last) rfl).1
  have c2 := (h1.cell 0 rfl 2 (v := .slice sa T.l.length cap) rfl).1
  have hle : T.free ≤ T.l.length := HTbl.freeIn_le T.l
  have hcase : Hid ((T.free < T.l.length ∧ ∃ s, T.l[T.free]? = some s ∧ s.is = 0 ∧ s.gen < T.last ∧ 0 ≤ s.gen ∧ T.open' a = (HTbl.nameOf T.free (s.gen + 1), 0, ⟨T.most, T.last, T.l.set T.free ⟨1, s.gen + 1, a⟩⟩)) ∨
      (T.free = T.l.length ∧ (T.l.length : Int) = T.most ∧ T.open' a = (0, 10, T)) ∨ (T.free = T.l.length ∧ (T.l.length : Int) < T.most ∧ T.open' a = (HTbl.nameOf T.l.length 1, 0, ⟨T.most, T.last, T.l ++ [⟨1, 1, a⟩]⟩))) := by
    have hl := hT.len
    rcases Nat.lt_or_ge T.free T.l.length with hf | hf
    · have hs := List.getElem?_eq_getElem hf
      have hz := HTbl.freeIn_at T.l _ hs
      have hso := hT.slots _ _ hs
      have hg : T.genAt T.free = T.l[T.free].gen := by unfold HTbl.genAt; rw [hs]
      refine .inl ⟨hf, _, hs, hz, by have := hso.1; omega, by have := hso.2.1; omega, ?_⟩
      unfold HTbl.open' HTbl.openK HTbl.put
      rw [if_neg (by omega), if_neg (by omega), if_pos hf, hg]
    · have hfe : T.free = T.l.length := by omega
      have hg : T.genAt T.l.length = 0 := by unfold HTbl.genAt; rw [List.getElem?_eq_none (Nat.le_refl _)]
      by_cases hm : (T.l.length : Int) = T.most
      · refine .inr (.inl ⟨hfe, hm, ?_⟩)
        unfold HTbl.open'
        rw [if_neg (by omega), if_pos (by omega)]
      · refine .inr (.inr ⟨hfe, by omega, ?_⟩)
        unfold HTbl.open' HTbl.openK HTbl.put
        rw [hfe, if_neg (by omega), if_neg hm, if_neg (Nat.lt_irrefl _), hg]
        rfl
  have hbef : Hid (∀ j s, j < T.free → T.l[j]? = some s → s.is = 1 ∨ s.is ≠ 1 ∧ T.last ≤ s.gen) := by
    intro j s hj hs
    have hn := HTbl.freeIn_before T.l j s hj hs
    have hso := hT.slots _ _ hs
    rcases hso.1 with h | h | h
    · exact absurd h.1 hn
    · exact .inl h
    · exact .inr ⟨by omega, by omega⟩
  obtain ⟨r, hr⟩ : ∃ r, T.open' a = r := ⟨_, rfl⟩
  rw [hr] at hcase ⊢
  obtain ⟨p, hp⟩ : ∃ p, T.free = p := ⟨_, rfl⟩
  rw [hp] at hcase hbef hle
  obtain ⟨i0, hi0, hz0, hz1, hz2⟩ := info_parts infoRSlot
  have HI := Lib.hid (And.intro hi0 (And.intro hz0 (And.intro hz1 hz2)))
  have hlast := hT.last2
  have hb := lt_of_at (h1.block 0 rfl)
  have hE : Sep F w (w.alloc (.cells #[] 81)) [cellsAt b #[.int .i64 T.most, .int .u32 T.last, .slice sa T.l.length cap] 50, rowAt 81 3 (.slice sa T.l.length cap) T.l.length (rrow T.l), rowAt 81 3 (.slice (some ⟨w.heap.size, 0, none⟩) 0 0) 0 []] := h1.pushEmpty _ _
  have hsrc := srcOf_row (hE.row 1 rfl) (rrow_one _)
  have hSL := Lib.hid (fun s k (hs : T.l[k]? = some s) => hT.slots k s hs)
  clear hT h hr hp
  go_enter Try.func29, Try.ntmps29
  go_wp2_with (at_builtin; refine wpList_append_src hE 2 rfl (by rfl) _ _ 48 rfl Try.underlying48 hi0 hz0 hz1 hz2 rfl (by decide) (by rfl) _ (by rfl) hsrc (by unfold maxLen; omega) (by omega) ?_)
  intro sb cap2 w2 h2
  have hB := (h2.cell 0 rfl 2 (v := .slice sa T.l.length cap) rfl)
  have b1 := hB.1
  have b2 := hB.2
  have h3 := rtab_copied h2
  have HQ := Lib.hid h3
  clear h2 h3 hE hsrc hB hi0 hz0 hz1 hz2 c2 c0 c1 h1
  go_wp2_with fail
  obtain ⟨w3, hw3⟩ : ∃ w3, w2.setCell ⟨b, 2, none⟩ (.slice sb T.l.length cap2) = w3 := ⟨_, rfl⟩
  rw [hw3] at HQ ⊢
  clear hw3 b1 b2
  go_loopw [6] (fun k wr => ∃ j : Nat, j ≤ p ∧ k = .int .i64 j ∧ Sep F w wr [cellsAt b #[.int .i64 T.most, .int .u32 T.last, .slice sb T.l.length cap2] 50, rowAt 81 3 (.slice sb T.l.length cap2) T.l.length (rrow T.l)]) (fun k _ => p + 1 - (intOf k).toNat)
  case atStart => exact ⟨0, Nat.zero_le _, rfl, HQ.out⟩
  case round =>
    obtain ⟨j, hj, rfl, h3⟩ := hrel
    have c0 := (h3.cell 0 rfl 0 (v := .int .i64 T.most) rfl).1
    have c1 := (h3.cell 0 rfl 1 (v := .int .u32 T.last) rfl).1
    have c2 := (h3.cell 0 rfl 2 (v := .slice sb T.l.length cap2) rfl).1
    clear HQ
    by_cases hlt : j < p
    · have hs := List.getElem?_eq_getElem (show j < T.l.length by omega)
      have hne := hbef.out j _ hlt hs
      obtain ⟨g, cap', hv, hjl, e0, e1, _, _, _⟩ := rslot (h3.row 1 rfl) hs
      simp only [Value.slice.injEq, true_and] at hv
      obtain ⟨rfl, rfl⟩ := hv
      have hjl' : (j : Int) < (T.l.length : Int) := by omega
      have hj0 : (0 : Int) ≤ (j : Int) := by omega
      generalize T.l[j] = s at *
      rcases hne with hi | ⟨hi, hg⟩
      · have hbb : (s.is == 1) = true := beqT hi
        rw [hbb] at e0
        clear hbb hi hs
        go_wp2_with fail
        refine wp_region_quiet_lit (by kernel_rfl) (by kernel_rfl) ?_
        repeat (go_big_quiet_step (fail))
        refine wpQuiet_nil ?_
        intro wq hwq
        obtain ⟨nq, hwq⟩ := hwq
        have hq := Mod.of_drewN hwq
        clear hwq nq
        have H := Lib.hid (h3.more hq)
        clear hq h3
        go_wp2
        go_roundw
        case rel => exact ⟨j + 1, by omega, by go_num, H.out⟩
        case measure => simp [intOf]; omega
      · have hbb : (s.is == 1) = false := beqF hi
        rw [hbb] at e0
        have hgl : decide (s.gen < T.last) = false := ltF hg
        clear hbb hi hs
        go_wp2_with fail
        refine wp_region_quiet_lit (by kernel_rfl) (by kernel_rfl) ?_
        repeat (go_big_quiet_step (fail))
        refine wpQuiet_nil ?_
        intro wq hwq
        obtain ⟨nq, hwq⟩ := hwq
        have hq := Mod.of_drewN hwq
        clear hwq nq
        have H := Lib.hid (h3.more hq)
        clear hq h3
        go_wp2
        go_roundw
        case rel => exact ⟨j + 1, by omega, by go_num, H.out⟩
        case measure => simp [intOf]; omega
    · obtain rfl : j = p := by omega
      rcases hcase.out with ⟨hf, s, hs, hi, hg, hg0, hr⟩ | ⟨hf, hm, hr⟩ | ⟨hf, hm, hr⟩
      · subst hr
        obtain ⟨g, cap', hv, hjl, e0, e1, e2, ef, hgl0⟩ := rslot (h3.row 1 rfl) hs
        simp only [Value.slice.injEq, true_and] at hv
        obtain ⟨rfl, rfl⟩ := hv
        have hjl' : (j : Int) < (T.l.length : Int) := by omega
        have hj0 : (0 : Int) ≤ (j : Int) := by omega
        have hbb : (s.is == 1) = false := beqF (by omega)
        rw [hbb] at e0
        have hgl : decide (s.gen < T.last) = true := ltT hg
        have hbg : b ≠ g := by
          intro e
          have x1 := h3.block 0 rfl
          have x2 := h3.row 1 rfl
          exact row_ne x2 x1 (by decide) (by rw [e]; rfl)
        have hnm := fun W => rname_call ((j : Int) + 1) (s.gen + 1) (by omega) (by omega) (by omega) (by omega) W
        have hone : HTbl.nameOf j (s.gen + 1) = (s.gen + 1) * 4294967296 + ((j : Int) + 1) := rfl
        have HX := Lib.hid (And.intro hone hs)
        clear hbb hi hcase hone
        go_wp2_with fail
        refine wp_region_quiet_lit (by kernel_rfl) (by kernel_rfl) ?_
        repeat (go_big_quiet_step (fail))
        refine wpQuiet_nil ?_
        intro wq hwq
        obtain ⟨nq, hwq⟩ := hwq
        have hq := Mod.of_drewN hwq
        clear hwq nq
        have h4 := h3.more hq
        clear h3 hq c0 c1 c2 e0 e1 e2 ef
        obtain ⟨g', cap', hv, _, e0, e1, e2, ef, hgl0⟩ := rslot (h4.row 1 rfl) HX.out.2
        simp only [Value.slice.injEq, true_and, and_true, Option.some.injEq, Addr.mk.injEq] at hv
        obtain ⟨rfl, rfl⟩ := hv
        have c2 := (h4.cell 0 rfl 2 (v := .slice (some ⟨g, 0, none⟩) T.l.length cap2) rfl).1
        go_wp2_with fail
        go_still_tail 17, (by kernel_rfl)
        change wpList _ _ _ _ _ (World.drew wq)
        obtain ⟨ws, hws⟩ : ∃ x, World.drew wq = x := ⟨_, rfl⟩
        rw [hws]
        have hq : Mod No wq ws := hws ▸ (Mod.refl _ _).drew
        clear hws
        have h5 := h4.more hq
        clear h4 hq c2 e0 e1 e2
        obtain ⟨g', cap', hv, _, e0, e1, e2, ef, hgl0⟩ := rslot (h5.row 1 rfl) HX.out.2
        simp only [Value.slice.injEq, true_and, and_true, Option.some.injEq, Addr.mk.injEq] at hv
        obtain ⟨rfl, rfl⟩ := hv
        have e3 := ef (j * 3)
        have e4 := ef (j * 3 + 1)
        have e5 := ef (j * 3 + 2)
        have hS := ((h5.setItem 1 rfl (j * 3) (.bool true)).setItem 1 rfl (j * 3 + 1) (.int .u32 (s.gen + 1))).setItem 1 rfl (j * 3 + 2) (.int .i64 a)
        have k2 := (hS.cell 0 rfl 2 (v := .slice (some ⟨g, 0, none⟩) T.l.length cap2) rfl).1
        have k3 : ((((ws.setCell ⟨g, j * 3, none⟩ (.bool true)).setCell ⟨g, j * 3 + 1, none⟩ (.int .u32 (s.gen + 1))).setCell ⟨g, j * 3 + 2, none⟩ (.int .i64 a))).cell? ⟨g, j * 3 + 1, none⟩ = some (.int .u32 (s.gen + 1)) := by
          obtain ⟨g', hg', kk, _⟩ := hS.item 1 rfl (o := j * 3 + 1) (x := .int .u32 (s.gen + 1)) (by
            have hll := rrow_len T.l
            rw [List.getElem?_set_ne (by omega), List.getElem?_set_self (by rw [List.length_set]; omega)])
          cases hg'
          exact kk
        have HF := Lib.hid hS
        clear h5 hS ef hbg
        go_wp2_with (go_at_call 33; refine (hnm _).mono ?_; rintro e w' ⟨rfl, rfl⟩)
        go_ret2
        refine ⟨by rw [HX.out.1]; rfl, rtab_shut (v := .slice (some ⟨g, 0, none⟩) T.l.length cap2) ?_⟩
        have hS := HF.out
        simp only [List.length_set]
        rw [rrow_set hjl _ rfl]
        exact hS
      · subst hr
        subst hf
        have hge : decide (T.most ≤ (T.l.length : Int)) = true := leT (by omega)
        clear hcase hm
        go_wp2_with fail
        refine wp_region_quiet_lit (by kernel_rfl) (by kernel_rfl) ?_
        repeat (go_big_quiet_step (fail))
        refine wpQuiet_nil ?_
        intro wq hwq
        obtain ⟨nq, hwq⟩ := hwq
        have hq := Mod.of_drewN hwq
        clear hwq nq
        have H := Lib.hid (h3.more hq)
        clear hq h3
        go_wp2
        go_ret2
        exact ⟨rfl, rtab_shut H.out⟩
      · subst hr
        subst hf
        have hge : decide (T.most ≤ (T.l.length : Int)) = false := leF (by omega)
        have hnm := fun W => rname_call ((T.l.length : Int) + 1) 1 (by omega) (by omega) (by omega) (by omega) W
        have hone : HTbl.nameOf T.l.length 1 = 1 * 4294967296 + ((T.l.length : Int) + 1) := rfl
        have HX := Lib.hid hone
        obtain ⟨hi0, hz0, hz1, hz2⟩ := HI.out
        clear hcase hm hone
        go_wp2_with fail
        refine wp_region_quiet_lit (by kernel_rfl) (by kernel_rfl) ?_
        repeat (go_big_quiet_step (fail))
        refine wpQuiet_nil ?_
        intro wq hwq
        obtain ⟨nq, hwq⟩ := hwq
        have hq := Mod.of_drewN hwq
        clear hwq nq
        have h4 := h3.more hq
        clear h3 hq c0 c1 c2
        have c2 := (h4.cell 0 rfl 2 (v := .slice sb T.l.length cap2) rfl).1
        have hb4 := lt_of_at (h4.block 0 rfl)
        go_wp2_with (at_builtin; refine wpList_append_sep h4 1 rfl (by rfl) _ _ 48 rfl Try.underlying48 hi0 hz0 hz1 hz2 rfl (by decide) (by rfl) [.bool true, .int .u32 1, .int .i64 a] _ (by rfl) (by simp) rfl (by simp [Value.oneCell']) _ (by unfold maxLen; omega) (by omega) ?_)
        intro gg capg w5 h5
        have c2 := (h5.cell 0 rfl 2 (v := .slice sb T.l.length cap2) rfl).1
        have f2 := (h5.cell 0 rfl 2 (v := .slice sb T.l.length cap2) rfl).2
        have h6 := h5.set 0 rfl 2 (.slice (some ⟨gg, 0, none⟩) (T.l.length + 1) capg)
        have k2 := (h6.cell 0 rfl 2 (v := .slice (some ⟨gg, 0, none⟩) (T.l.length + 1) capg) rfl).1
        have HF := Lib.hid h6
        clear h4 h5 h6 hi0 hz0 hz1 hz2
        go_wp2_with (go_at_call 33; refine (hnm _).mono ?_; rintro e w' ⟨rfl, rfl⟩)
        go_ret2
        refine ⟨by rw [HX.out]; rfl, rtab_shut (v := .slice (some ⟨gg, 0, none⟩) (T.l.length + 1) capg) ?_⟩
        have hS := HF.out
        simp only [List.length_append, List.length_cons, List.length_nil, Nat.zero_add]
        rw [rrow_push _ _ rfl]
        exact hS
end Go.Proofs.Ytbcecgbnnpbjbaa
