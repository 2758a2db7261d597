/- Live of handle.Table, walked. Condition: the table is as Tab says. -/
import Derived.Test.YtmdnofojecncgaaGreatDoorHandleOpen
set_option linter.unusedVariables false
set_option linter.unusedSimpArgs false
set_option maxRecDepth 100000
namespace Go.Proofs.YtmdnofojecncgaaGreatDoor
open Go Go.RowKit

theorem infoHandle : (Tryz.prog.info? 46).map (fun i => (i.zero, i.size, i.bytes)) = some (some (.int .u64 0), 1, 8) := by kernel_rfl

theorem Tab.live_call {w : World} {t : Nat} {v : Value} {T : HTbl} (h : Tab w t v T) :
    Calls Tryz.prog 69 #[.pointer (some ⟨t, 0, none⟩)] w fun e w' =>
      ∃ v', e = .returned v' ∧ w'.ownsRow 0 46 1 v' T.live.length (T.live.map (Value.int .u64)) ∧ Mod (fun _ => False) w w' ∧ ∀ k, v'.ownBlock = some k → w.heap.size ≤ k := by
  have hN := h.there
  have c2 := h.c2
  have hlb : T.l.length ≤ 65536 := by have := h.ok.len; have := h.ok.most2; omega
  obtain ⟨i0, hi, hz0, hz1, hz2⟩ := info_parts infoHandle
  obtain ⟨sa, _, cap, rfl, rfl⟩ := h.form
  have H := Lib.hid h
  clear h
  go_enter Tryz.func69, Tryz.ntmps69
  go_wp2_with ((with_reducible refine hN.mono ?_); rintro e w' ⟨rfl, rfl⟩)
  go_loopw [3, 13] (fun out i wr => ∃ j : Nat, j ≤ T.l.length ∧ i = .int .i64 j ∧ wr.ownsRow 0 46 1 out (T.liveTo j).length ((T.liveTo j).map (Value.int .u64)) ∧ Mod (fun _ => False) w wr ∧ ∀ k, out.ownBlock = some k → w.heap.size ≤ k) (fun _ i _ => T.l.length - (RowKit.intOf i).toNat)
  case atStart => exact ⟨0, Nat.zero_le _, rfl, World.ownsRow_nil _ _ _ _, Mod.refl _ _, by simp [Value.ownBlock]⟩
  case round =>
    obtain ⟨j, hj, rfl, hown, hm, hnew⟩ := hrel
    by_cases hlt : j < T.l.length
    · have hs := List.getElem?_eq_getElem hlt
      have hT := H.out.mod hm (fun x => x) (fun _ _ x => x)
      obtain ⟨g, cap', hv, _, b0, b1, b2, _⟩ := hT.slot hs
      simp only [Value.slice.injEq] at hv
      obtain ⟨rfl, _, rfl⟩ := hv
      have hlo : T.liveTo (j + 1) = T.liveTo j ++ if (T.l[j]).is = 1 then [HTbl.nameOf j (T.l[j]).gen] else [] := by
        simp only [HTbl.liveTo, hs]
      have hle := HTbl.liveTo_le T j
      have hnm := fun o => (hT.mod ((Mod.refl (fun _ => False) wr).alloc o) (fun x => x) (fun _ _ x => x)).name_call hs
      have HX := Lib.hid (And.intro hlo (And.intro hm hnew))
      clear hlo hm hnew hT
      generalize T.l[j] = s at *
      by_cases hi1 : s.is = 1
      · have hb : (s.is == 1) = true := beqT hi1
        clear hi1 H hs
        go_wp2_with (first | ((with_reducible refine (hnm _).mono ?_); rintro e w' ⟨rfl, rfl⟩) | (at_builtin; refine wpList_append_cell _ (by rfl) _ _ 38 rfl 46 i0 _ 8 Tryz.underlying38 hi hz0 hz1 hz2 rfl _ _ _ (by rfl) (hown.alloc _) _ _ _ (by rfl) (by simp) (by rfl) (by unfold maxLen; omega) (by omega) ?_))
        intro g1 cap1 w1 hown1 hm1 hg1
        clear hnm hown hi hz0 hz1 hz2
        go_wp2
        go_roundw
        case rel =>
          obtain ⟨hlo, hm, hnew⟩ := HX.out
          rw [if_pos (by simpa using hb)] at hlo
          refine ⟨j + 1, by omega, by go_num, ?_, ?_, ?_⟩
          · rw [hlo]; simpa using hown1
          · exact (hm.alloc _).trans (hm1.mono fun k _ hk => .inr (hnew k hk))
          · intro k hk
            cases hk
            show w.heap.size ≤ g1
            have := hm.size
            exact hg1.elim (fun e => hnew _ e) (fun e => by have e2 := (Nat.le_trans (by simp) e : wr.heap.size ≤ g1); omega)
        case measure => simp [RowKit.intOf]; omega
      · have hb : (s.is == 1) = false := beqF hi1
        clear H hs hnm hi hz0 hz1 hz2
        go_wp2
        go_roundw
        case rel =>
          obtain ⟨hlo, hm, hnew⟩ := HX.out
          rw [if_neg hi1, List.append_nil] at hlo
          refine ⟨j + 1, by omega, by go_num, ?_, ?_, hnew⟩
          · rw [hlo]; exact hown.alloc _
          · exact hm.alloc _
        case measure => simp [RowKit.intOf]; omega
    · have hjl : j = T.l.length := by omega
      subst hjl
      clear H
      go_wp2
      go_ret
      exact ⟨_, rfl, hown, hm, hnew⟩

/-- A table that is not there, or that nobody made: each call's answer. -/
theorem of_none {w : World} {p : Value} (n : Int) (hN : Calls Tryz.prog 97 #[p] w fun e w' => e = .returned (.bool true) ∧ w = w') :
    Calls Tryz.prog 98 #[p, .int .u64 n] w fun e w' => e = .returned (.tuple #[.pointer none, .int .i64 1]) ∧ w = w' := by
  go_enter Tryz.func98, Tryz.ntmps98
  go_wp2_with ((with_reducible refine hN.mono ?_); rintro e w' ⟨rfl, rfl⟩)
  go_ret2
  exact ⟨rfl, rfl⟩
theorem open_none {w : World} {p : Value} (n : Int) (hN : Calls Tryz.prog 97 #[p] w fun e w' => e = .returned (.bool true) ∧ w = w') :
    Calls Tryz.prog 63 #[p, .int .i64 n] w fun e w' => e = .returned (.tuple #[.int .u64 0, .int .i64 1]) ∧ w = w' := by
  go_enter Tryz.func63, Tryz.ntmps63
  go_wp2_with ((with_reducible refine hN.mono ?_); rintro e w' ⟨rfl, rfl⟩)
  go_ret2
  exact ⟨rfl, rfl⟩
theorem at_none {w : World} {p : Value} (n : Int) (hN : Calls Tryz.prog 97 #[p] w fun e w' => e = .returned (.bool true) ∧ w = w') :
    Calls Tryz.prog 67 #[p, .int .u64 n] w fun e w' => e = .returned (.tuple #[.int .i64 0, .int .i64 1]) ∧ w = w' := by
  have hc := of_none n hN
  clear hN
  go_enter Tryz.func67, Tryz.ntmps67
  go_wp2_with ((with_reducible refine hc.mono ?_); rintro e w' ⟨rfl, rfl⟩)
  go_ret2
  exact ⟨rfl, rfl⟩
theorem move_none {w : World} {p : Value} (n a : Int) (hN : Calls Tryz.prog 97 #[p] w fun e w' => e = .returned (.bool true) ∧ w = w') :
    Calls Tryz.prog 56 #[p, .int .u64 n, .int .i64 a] w fun e w' => e = .returned (.int .i64 1) ∧ w = w' := by
  have hc := of_none n hN
  go_enter Tryz.func56, Tryz.ntmps56
  go_wp2_with (first | ((with_reducible refine hN.mono ?_); rintro e w' ⟨rfl, rfl⟩) | ((with_reducible refine hc.mono ?_); rintro e w' ⟨rfl, rfl⟩))
  go_ret
  exact ⟨rfl, rfl⟩
theorem close_none {w : World} {p : Value} (n : Int) (hN : Calls Tryz.prog 97 #[p] w fun e w' => e = .returned (.bool true) ∧ w = w') :
    Calls Tryz.prog 70 #[p, .int .u64 n] w fun e w' => e = .returned (.int .i64 1) ∧ w = w' := by
  have hc := of_none n hN
  clear hN
  go_enter Tryz.func70, Tryz.ntmps70
  go_wp2_with ((with_reducible refine hc.mono ?_); rintro e w' ⟨rfl, rfl⟩)
  go_ret
  exact ⟨rfl, rfl⟩
theorem live_none {w : World} {p : Value} (hN : Calls Tryz.prog 97 #[p] w fun e w' => e = .returned (.bool true) ∧ w = w') :
    Calls Tryz.prog 69 #[p] w fun e w' => e = .returned (.slice none 0 0) ∧ w = w' := by
  go_enter Tryz.func69, Tryz.ntmps69
  go_wp2_with ((with_reducible refine hN.mono ?_); rintro e w' ⟨rfl, rfl⟩)
  go_ret
  exact ⟨rfl, rfl⟩
end Go.Proofs.YtmdnofojecncgaaGreatDoor
