/- Close, New, Used, name of handle.Table, walked. Conditions: the table is as Tab says; handles are 64-bit words. -/
import Derived.Test.YtmdnofojecncgaaGreatDoorHandleWalk2
import Derived.Deep.QuietTactic
import Derived.BigQuiet
set_option linter.unusedVariables false
set_option linter.unusedSimpArgs false
set_option maxRecDepth 100000
namespace Go.Proofs.YtmdnofojecncgaaGreatDoor
open Go Go.RowKit

theorem Tab.of_heap {w w' : World} {t : Nat} {v : Value} {T : HTbl} (h : Tab w t v T) (e : w'.heap = w.heap) : Tab w' t v T :=
  ⟨by rw [e]; exact h.box, ⟨h.row.1, by rw [e]; exact h.row.2⟩, h.ok⟩
theorem Mod.drewN {S : Nat → Prop} {a w : World} (h : Mod S a w) (n : Nat) : Mod S a (w.drewN n) := ⟨h.os, h.tape, h.output, h.size, h.block⟩

theorem Mod.like {S : Nat → Prop} {a w w' : World} (h : Mod S a w) (e1 : w'.heap = w.heap) (e2 : w'.os = w.os) (e3 : w'.tape = w.tape) (e4 : w'.output = w.output) : Mod S a w' :=
  ⟨e2.trans h.os, e3.trans h.tape, e4.trans h.output, by rw [e1]; exact h.size, fun k hk hn => by rw [e1]; exact h.block k hk hn⟩

theorem Tab.close_call {w : World} {t : Nat} {v : Value} {T : HTbl} (h : Tab w t v T) (n : Int) (n0 : 0 ≤ n) (n1 : n < 18446744073709551616) :
    Calls Tryz.prog 70 #[.pointer (some ⟨t, 0, none⟩), .int .u64 n] w fun e w' => e = .returned (.int .i64 (T.close n).1) ∧ Tab w' t v (T.close n).2 ∧ Mod (Own t v) w w' := by
  cases hb : T.okB n with
  | false =>
    have hv : T.close n = (7, T) := by unfold HTbl.close; rw [hb]; rfl
    rw [hv]
    have hc := h.of_dead n n0 n1 hb
    have hfin : Tab w t v T ∧ Mod (Own t v) w w := ⟨h, Mod.refl _ _⟩
    clear n0 n1 hb hv h
    go_enter Tryz.func70, Tryz.ntmps70
    go_wp2_with ((with_reducible refine hc.mono ?_); rintro e w' ⟨rfl, rfl⟩)
    go_ret
    exact ⟨rfl, hfin⟩
  | true =>
    obtain ⟨g, cap, s, rfl, hs, hc⟩ := h.of_live n n0 n1 hb
    obtain ⟨g', cap', hv', hkl, c0, c1, c2, hfz, hgt⟩ := h.slot hs
    simp only [Value.slice.injEq, Option.some.injEq, Addr.mk.injEq, and_true, true_and] at hv'
    obtain ⟨rfl, rfl⟩ := hv'
    have hv : T.close n = (0, T.shut (HTbl.place n).toNat) := by unfold HTbl.close; rw [hb]; rfl
    rw [hv]
    have hT' : T.shut (HTbl.place n).toNat = { T with l := T.l.set (HTbl.place n).toNat { s with is := if s.gen = T.last then 2 else 0 } } := by unfold HTbl.shut; rw [hs]
    have hlen : (T.shut (HTbl.place n).toNat).l.length = T.l.length := by rw [hT']; simp
    have hok := HTbl.shut_ok h.ok (HTbl.place n).toNat
    have hfz := hfz ((HTbl.place n).toNat * 3)
    have hl := h.c1
    have hrow : rowOf (T.shut (HTbl.place n).toNat).l = (rowOf T.l).set ((HTbl.place n).toNat * 3) (.int .i64 (if s.gen = T.last then 2 else 0)) := by rw [hT']; exact rowOf_setIs hs _
    have hm1 : (T.shut (HTbl.place n).toNat).most = T.most := by rw [hT']
    have hm2 : (T.shut (HTbl.place n).toNat).last = T.last := by rw [hT']
    by_cases hg : s.gen = T.last
    · have hgb : (s.gen == T.last) = true := beqT hg
      rw [if_pos hg] at hrow
      have hfin := h.store _ _ hm1 hm2 hlen hrow hok
      rw [hlen] at hfin
      have hfin2 : Tab ((w.setCell ⟨g, (HTbl.place n).toNat * 3, none⟩ (.int .i64 0)).setCell ⟨g, (HTbl.place n).toNat * 3, none⟩ (.int .i64 2)) t (.slice (some ⟨g, 0, none⟩) T.l.length cap) (T.shut (HTbl.place n).toNat) ∧
          Mod (Own t (.slice (some ⟨g, 0, none⟩) T.l.length cap)) w ((w.setCell ⟨g, (HTbl.place n).toNat * 3, none⟩ (.int .i64 0)).setCell ⟨g, (HTbl.place n).toNat * 3, none⟩ (.int .i64 2)) := by
        refine ⟨?_, ((Mod.refl _ w).setCell _ _ (.inl (.inr rfl))).setCell _ _ (.inl (.inr rfl))⟩
        have e : (w.setCell ⟨g, (HTbl.place n).toNat * 3, none⟩ (.int .i64 0)).setCell ⟨g, (HTbl.place n).toNat * 3, none⟩ (.int .i64 2) = w.setCell ⟨g, (HTbl.place n).toNat * 3, none⟩ (.int .i64 2) := by
          simp only [World.setCell]; congr 1
          apply Array.ext_getElem?
          intro i
          simp only [Array.getElem?_modify]
          by_cases hi : g = i
          · subst hi
            rw [if_pos rfl, if_pos rfl, if_pos rfl]
            cases w.heap[g]? with
            | none => rfl
            | some o => cases o <;> simp
          · rw [if_neg hi, if_neg hi, if_neg hi]
        rw [e]; exact hfin.1
      have HF := Lib.hid hfin2
      clear n0 n1 hb hv h hs hkl hT' hlen hok hrow hm1 hm2 hfin hfin2 hg
      generalize T.shut (HTbl.place n).toNat = T' at *
      generalize (HTbl.place n).toNat = k at *
      generalize s.gen = sg at *
      generalize T.last = tl at *
      go_enter Tryz.func70, Tryz.ntmps70
      go_wp2_with ((with_reducible refine hc.mono ?_); rintro e w' ⟨rfl, rfl⟩)
      go_quiet (fail)
      go_wp2
      go_ret
      exact ⟨rfl, HF.out.1.of_heap rfl, HF.out.2.like rfl rfl rfl rfl⟩
    · have hgb : (s.gen == T.last) = false := beqF hg
      rw [if_neg hg] at hrow
      have hfin := h.store _ _ hm1 hm2 hlen hrow hok
      rw [hlen] at hfin
      have HF := Lib.hid hfin
      clear n0 n1 hb hv h hs hkl hT' hlen hok hrow hm1 hm2 hfin hg
      generalize T.shut (HTbl.place n).toNat = T' at *
      generalize (HTbl.place n).toNat = k at *
      generalize s.gen = sg at *
      generalize T.last = tl at *
      go_enter Tryz.func70, Tryz.ntmps70
      go_wp2_with ((with_reducible refine hc.mono ?_); rintro e w' ⟨rfl, rfl⟩)
      go_quiet (fail)
      go_wp2
      go_ret
      exact ⟨rfl, HF.out.1.of_heap rfl, HF.out.2.like rfl rfl rfl rfl⟩

/-- New: a table without slots, or a refusal. -/
theorem new_ok (w : World) (m l : Int) (h1 : 1 ≤ m) (h2 : m ≤ 65536) (h3 : 1 ≤ l) (h4 : l ≤ 4294967295) :
    Calls Tryz.prog 50 #[.int .i64 m, .int .u32 l] w fun e w' => e = .returned (.tuple #[.pointer (some ⟨w.heap.size, 0, none⟩), .int .i64 0]) ∧
      Tab w' w.heap.size (.slice none 0 0) ⟨m, l, []⟩ ∧ Mod (fun _ => False) w w' := by
  have d1 : decide (m < 1) = false := ltF h1
  have d2 : decide (65536 < m) = false := ltF h2
  have d3 : decide (l < 1) = false := ltF h3
  have hfin : Tab (w.alloc (.cells #[.int .i64 m, .int .u32 l, .slice none 0 0] 170)) w.heap.size (.slice none 0 0) ⟨m, l, []⟩ ∧
      Mod (fun _ => False) w (w.alloc (.cells #[.int .i64 m, .int .u32 l, .slice none 0 0] 170)) :=
    ⟨⟨heap_alloc_new w _, World.ownsRow_nil _ _ _ _, ⟨h1, h2, h3, h4, by show (0 : Int) ≤ m; omega, by simp⟩⟩, (Mod.refl _ w).alloc _⟩
  have HF := Lib.hid hfin
  clear hfin
  go_enter Tryz.func50, Tryz.ntmps50
  go_wp2
  go_ret2
  exact ⟨rfl, HF.out⟩

theorem new_no (w : World) (m l : Int) (h : ¬ (1 ≤ m ∧ m ≤ 65536 ∧ 1 ≤ l)) :
    Calls Tryz.prog 50 #[.int .i64 m, .int .u32 l] w fun e w' => e = .returned (.tuple #[.pointer none, .int .i64 2]) ∧ w = w' := by
  by_cases c1 : m < 1
  · have d1 : decide (m < 1) = true := ltT c1
    clear h
    go_enter Tryz.func50, Tryz.ntmps50
    go_wp2
    go_ret2
    exact ⟨rfl, rfl⟩
  by_cases c2 : 65536 < m
  · have d2 : decide (65536 < m) = true := ltT c2
    have d1 : decide (m < 1) = false := ltF (by omega)
    clear h
    go_enter Tryz.func50, Tryz.ntmps50
    go_wp2
    go_ret2
    exact ⟨rfl, rfl⟩
  have d2 : decide (65536 < m) = false := ltF (by omega)
  have d1 : decide (m < 1) = false := ltF (by omega)
  have d3 : decide (l < 1) = true := ltT (by omega)
  clear h
  go_enter Tryz.func50, Tryz.ntmps50
  go_wp2
  go_ret2
  exact ⟨rfl, rfl⟩

theorem Tab.name_call {w : World} {t : Nat} {v : Value} {T : HTbl} (h : Tab w t v T) {k : Nat} {s : HSlot} (hs : T.l[k]? = some s) :
    Calls Tryz.prog 104 #[.pointer (some ⟨t, 0, none⟩), .int .i64 k] w fun e w' => e = .returned (.int .u64 (HTbl.nameOf k s.gen)) ∧ w = w' := by
  obtain ⟨g, cap, rfl, hkl, c0, c1, c2, hfz, hgt⟩ := h.slot hs
  have hc := h.c2
  have hso := h.ok.slots k s hs
  have g0 : 0 ≤ s.gen := by have := hso.2.1; omega
  have g1 : s.gen ≤ 4294967295 := by have := hso.2.2.1; have := h.ok.last2; omega
  have k1 : (k : Int) ≤ 65535 := by have := h.ok.len; have := h.ok.most2; omega
  have ho : bits .or .u64 (s.gen * 4294967296) ((k : Int) + 1) = HTbl.nameOf k s.gen := by
    rw [or_high32 s.gen _ g0 (by omega) (by omega) (by omega)]; rfl
  generalize HTbl.nameOf k s.gen = r at *
  generalize s.gen = sg at *
  clear h hs hso c0 c2 hfz hgt
  go_enter Tryz.func104, Tryz.ntmps104
  go_wp2
  go_ret
  exact ⟨rfl, rfl⟩
end Go.Proofs.YtmdnofojecncgaaGreatDoor
