/- Close, New, Used, name of handle.Table, walked. Conditions: the table is as Tab says; handles are 64-bit words. -/
import Derived.Test.YtpcomekikeoliaaGreatDoorHandleWalk2
import Derived.Deep.QuietTactic
import Derived.BigQuiet
set_option linter.unusedVariables false
set_option linter.unusedSimpArgs false
set_option maxRecDepth 100000
namespace Go.Proofs.YtpcomekikeoliaaGreatDoor
open Go Go.RowKit

theorem Tab.of_heap {w w' : World} {t : Nat} {v : Value} {T : HTbl} (h : Tab w t v T) (e : w'.heap = w.heap) : Tab w' t v T :=
  ⟨by rw [e]; exact h.box, ⟨h.row.1, by rw [e]; exact h.row.2⟩, h.ok⟩
theorem Mod.drewN {S : Nat → Prop} {a w : World} (h : Mod S a w) (n : Nat) : Mod S a (w.drewN n) := ⟨h.os, h.tape, h.output, h.size, h.block⟩

theorem Mod.like {S : Nat → Prop} {a w w' : World} (h : Mod S a w) (e1 : w'.heap = w.heap) (e2 : w'.os = w.os) (e3 : w'.tape = w.tape) (e4 : w'.output = w.output) : Mod S a w' :=
  ⟨e2.trans h.os, e3.trans h.tape, e4.trans h.output, by rw [e1]; exact h.size, fun k hk hn => by rw [e1]; exact h.block k hk hn⟩

/-- New: a table without slots, or a refusal. -/
theorem new_ok (w : World) (m l : Int) (h1 : 1 ≤ m) (h2 : m ≤ 65536) (h3 : 1 ≤ l) (h4 : l ≤ 4294967295) :
    Calls Tryz.prog 51 #[.int .i64 m, .int .u32 l] w fun e w' => e = .returned (.tuple #[.pointer (some ⟨w.heap.size, 0, none⟩), .int .i64 0]) ∧
      Tab w' w.heap.size (.slice none 0 0) ⟨m, l, []⟩ ∧ Mod (fun _ => False) w w' := by
  have d1 : decide (m < 1) = false := ltF h1
  have d2 : decide (65536 < m) = false := ltF h2
  have d3 : decide (l < 1) = false := ltF h3
  have hfin : Tab (w.alloc (.cells #[.int .i64 m, .int .u32 l, .slice none 0 0] 151)) w.heap.size (.slice none 0 0) ⟨m, l, []⟩ ∧
      Mod (fun _ => False) w (w.alloc (.cells #[.int .i64 m, .int .u32 l, .slice none 0 0] 151)) :=
    ⟨⟨heap_alloc_new w _, World.ownsRow_nil _ _ _ _, ⟨h1, h2, h3, h4, by show (0 : Int) ≤ m; omega, by simp⟩⟩, (Mod.refl _ w).alloc _⟩
  have HF := Lib.hid hfin
  clear hfin
  go_enter Tryz.func51, Tryz.ntmps51
  go_wp2
  go_ret2
  exact ⟨rfl, HF.out⟩

theorem new_no (w : World) (m l : Int) (h : ¬ (1 ≤ m ∧ m ≤ 65536 ∧ 1 ≤ l)) :
    Calls Tryz.prog 51 #[.int .i64 m, .int .u32 l] w fun e w' => e = .returned (.tuple #[.pointer none, .int .i64 2]) ∧ w = w' := by
  by_cases c1 : m < 1
  · have d1 : decide (m < 1) = true := ltT c1
    clear h
    go_enter Tryz.func51, Tryz.ntmps51
    go_wp2
    go_ret2
    exact ⟨rfl, rfl⟩
  by_cases c2 : 65536 < m
  · have d2 : decide (65536 < m) = true := ltT c2
    have d1 : decide (m < 1) = false := ltF (by omega)
    clear h
    go_enter Tryz.func51, Tryz.ntmps51
    go_wp2
    go_ret2
    exact ⟨rfl, rfl⟩
  have d2 : decide (65536 < m) = false := ltF (by omega)
  have d1 : decide (m < 1) = false := ltF (by omega)
  have d3 : decide (l < 1) = true := ltT (by omega)
  clear h
  go_enter Tryz.func51, Tryz.ntmps51
  go_wp2
  go_ret2
  exact ⟨rfl, rfl⟩

theorem Tab.name_call {w : World} {t : Nat} {v : Value} {T : HTbl} (h : Tab w t v T) {k : Nat} {s : HSlot} (hs : T.l[k]? = some s) :
    Calls Tryz.prog 117 #[.pointer (some ⟨t, 0, none⟩), .int .i64 k] w fun e w' => e = .returned (.int .u64 (HTbl.nameOf k s.gen)) ∧ w = w' := by
  obtain ⟨g, cap, rfl, hkl, c0, c1, c2, hfz, hgt⟩ := h.slot hs
  have hc := h.c2
  have hso := h.ok.slots k s hs
  have g0 : 0 ≤ s.gen := by have := hso.2.1; omega
  have g1 : s.gen ≤ 4294967295 := by have := hso.2.2.1; have := h.ok.last2; omega
  have k1 : (k : Int) ≤ 65535 := by have := h.ok.len; have := h.ok.most2; omega
  have ho : bits .or .u64 (s.gen * 4294967296) ((k : Int) + 1) = HTbl.nameOf k s.gen := by
    rw [or_high32 s.gen _ g0 (by omega) (by omega) (by omega)]; rfl
  generalize HTbl.nameOf k s.gen = r at *
  generalize s.gen = sg at *
  clear h hs hso c0 c2 hfz hgt
  go_enter Tryz.func117, Tryz.ntmps117
  go_wp2
  go_ret
  exact ⟨rfl, rfl⟩
end Go.Proofs.YtpcomekikeoliaaGreatDoor
