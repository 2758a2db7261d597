/- At, Move, Close, New, Used, name of handle.Table, walked. Conditions: the table is as Tab says; handles are 64-bit words, addresses 64-bit ints. -/
import Derived.Test.YtpcomekikeoliaaGreatDoorHandleWalk
set_option linter.unusedVariables false
set_option linter.unusedSimpArgs false
set_option maxRecDepth 100000
namespace Go.Proofs.YtpcomekikeoliaaGreatDoor
open Go Go.RowKit

theorem Tab.at_call {w : World} {t : Nat} {v : Value} {T : HTbl} (h : Tab w t v T) (n : Int) (n0 : 0 ≤ n) (n1 : n < 18446744073709551616) :
    Calls Tryz.prog 101 #[.pointer (some ⟨t, 0, none⟩), .int .u64 n] w fun e w' => e = .returned (.tuple #[.int .i64 (T.at' n).1, .int .i64 (T.at' n).2]) ∧ w = w' := by
  cases hb : T.okB n with
  | false =>
    have hv : T.at' n = (0, 7) := by unfold HTbl.at'; rw [hb]; rfl
    rw [hv]
    have hc := h.of_dead n n0 n1 hb
    clear n0 n1 hb hv h
    go_enter Tryz.func101, Tryz.ntmps101
    go_wp2_with ((with_reducible refine hc.mono ?_); rintro e w' ⟨rfl, rfl⟩)
    go_ret2
    exact ⟨rfl, rfl⟩
  | true =>
    obtain ⟨g, cap, s, rfl, hs, hc⟩ := h.of_live n n0 n1 hb
    obtain ⟨g', cap', hv', hkl, a0, a1, a2, _⟩ := h.slot hs
    simp only [Value.slice.injEq, Option.some.injEq, Addr.mk.injEq, and_true, true_and] at hv'
    obtain ⟨rfl, rfl⟩ := hv'
    have hv : T.at' n = (s.addr, 0) := by unfold HTbl.at'; rw [hb, hs]; rfl
    rw [hv]
    clear n0 n1 hb hv h hs hkl a0 a1
    generalize (HTbl.place n).toNat = k at *
    generalize s.addr = a at *
    go_enter Tryz.func101, Tryz.ntmps101
    go_wp2_with ((with_reducible refine hc.mono ?_); rintro e w' ⟨rfl, rfl⟩)
    go_ret2
    exact ⟨rfl, rfl⟩

/-- What a call on a table may change: its struct and its row. -/
def Own (t : Nat) (v : Value) (k : Nat) : Prop := k = t ∨ v.ownBlock = some k

theorem Tab.store {w : World} {t g cap : Nat} {T T' : HTbl} (h : Tab w t (.slice (some ⟨g, 0, none⟩) T.l.length cap) T) (j : Nat) (u : Value) (hm : T'.most = T.most) (hl : T'.last = T.last)
    (hlen : T'.l.length = T.l.length) (hrow : rowOf T'.l = (rowOf T.l).set j u) (hok : T'.Ok) :
    Tab (w.setCell ⟨g, j, none⟩ u) t (.slice (some ⟨g, 0, none⟩) T'.l.length cap) T' ∧ Mod (Own t (.slice (some ⟨g, 0, none⟩) T.l.length cap)) w (w.setCell ⟨g, j, none⟩ u) := by
  have hne : t ≠ g := fun e => h.ne (by simp [Value.ownBlock, e])
  refine ⟨⟨?_, ?_, hok⟩, (Mod.refl _ w).setCell _ _ (.inl (.inr rfl))⟩
  · rw [at_setCell_ne _ _ hne, h.box, hm, hl, hlen]
  · rw [hrow, hlen]; exact (h.row.stored j u).1

theorem Tab.move_call {w : World} {t : Nat} {v : Value} {T : HTbl} (h : Tab w t v T) (n a : Int) (n0 : 0 ≤ n) (n1 : n < 18446744073709551616) (a1 : a ≤ 9223372036854775807) :
    Calls Tryz.prog 57 #[.pointer (some ⟨t, 0, none⟩), .int .u64 n, .int .i64 a] w fun e w' => e = .returned (.int .i64 (T.move n a).1) ∧ Tab w' t v (T.move n a).2 ∧ Mod (Own t v) w w' := by
  have hN := h.there
  by_cases ha : a < 0
  · have hv : T.move n a = (2, T) := by unfold HTbl.move; rw [if_pos ha]
    rw [hv]
    have hfin : Tab w t v T ∧ Mod (Own t v) w w := ⟨h, Mod.refl _ _⟩
    clear n0 n1 hv h
    go_enter Tryz.func57, Tryz.ntmps57
    go_wp2_with ((with_reducible refine hN.mono ?_); rintro e w' ⟨rfl, rfl⟩)
    go_ret
    exact ⟨rfl, hfin⟩
  have ha' : 0 ≤ a := Int.not_lt.1 ha
  clear ha
  cases hb : T.okB n with
  | false =>
    have hv : T.move n a = (7, T) := by unfold HTbl.move; rw [if_neg (by omega), hb]; rfl
    rw [hv]
    have hc := h.of_dead n n0 n1 hb
    have hfin : Tab w t v T ∧ Mod (Own t v) w w := ⟨h, Mod.refl _ _⟩
    clear n0 n1 hb hv h
    go_enter Tryz.func57, Tryz.ntmps57
    go_wp2_with (first | ((with_reducible refine hN.mono ?_); rintro e w' ⟨rfl, rfl⟩) | ((with_reducible refine hc.mono ?_); rintro e w' ⟨rfl, rfl⟩))
    go_ret
    exact ⟨rfl, hfin⟩
  | true =>
    obtain ⟨g, cap, s, rfl, hs, hc⟩ := h.of_live n n0 n1 hb
    obtain ⟨g', cap', hv', hkl, _, _, c2, hfz, _⟩ := h.slot hs
    simp only [Value.slice.injEq, Option.some.injEq, Addr.mk.injEq, and_true, true_and] at hv'
    obtain ⟨rfl, rfl⟩ := hv'
    have hv : T.move n a = (0, T.setAddr (HTbl.place n).toNat a) := by unfold HTbl.move; rw [if_neg (by omega), hb]; rfl
    rw [hv]
    have hT' : T.setAddr (HTbl.place n).toNat a = { T with l := T.l.set (HTbl.place n).toNat { s with addr := a } } := by unfold HTbl.setAddr; rw [hs]
    have hlen : (T.setAddr (HTbl.place n).toNat a).l.length = T.l.length := by rw [hT']; simp
    have hfin := h.store (T' := T.setAddr (HTbl.place n).toNat a) ((HTbl.place n).toNat * 3 + 2) (.int .i64 a) (by rw [hT']) (by rw [hT']) hlen (by rw [hT']; exact rowOf_setAddr hs a) (HTbl.setAddr_ok h.ok _ a ha' a1)
    rw [hlen] at hfin
    have f2 := hfz ((HTbl.place n).toNat * 3 + 2)
    clear n0 n1 hb hv h hs hkl hT' hlen hfz
    generalize T.setAddr (HTbl.place n).toNat a = T' at *
    generalize (HTbl.place n).toNat = k at *
    generalize s.addr = a0 at *
    have HF := Lib.hid hfin
    clear hfin
    go_enter Tryz.func57, Tryz.ntmps57
    go_wp2_with (first | ((with_reducible refine hN.mono ?_); rintro e w' ⟨rfl, rfl⟩) | ((with_reducible refine hc.mono ?_); rintro e w' ⟨rfl, rfl⟩))
    go_ret
    exact ⟨rfl, HF.out⟩
end Go.Proofs.YtpcomekikeoliaaGreatDoor
