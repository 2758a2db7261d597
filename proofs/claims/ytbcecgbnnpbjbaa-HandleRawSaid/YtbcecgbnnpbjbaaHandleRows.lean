/- A table of the law's own beside slices of the law's own. No condition. -/
import Derived.Test.YtbcecgbnnpbjbaaHandleNew
import Derived.Test.YtbcecgbnnpbjbaaIRow
namespace Go.Proofs.Ytbcecgbnnpbjbaa
open Go Go.RowKit

theorem IRow.mod_tab {w0 w w' : World} {e : TypeId} {k : IntKind} {v tv : Value} {xs : List Int} {t : Nat} {T : HTbl} (h : IRow w0 w e k v xs) (hT : Tab w t tv T) (h1 : 60 ≠ e) (h2 : e ≠ 72) (hm : Mod (Own t tv) w w') : IRow w0 w' e k v xs :=
  h.mod hm fun g hg hS => hS.elim (fun x => row_ne h.own hT.box h1 (x ▸ hg)) (fun x => rows_ne h.own hT.row h2 hg x)

theorem NT.mod_row {w0 w w' : World} {t : Nat} {v : Value} {T : HTbl} (h : NT w0 w t v T) {e : TypeId} {k : IntKind} {vr : Value} {xs : List Int} (hr : IRow w0 w e k vr xs) (h1 : 60 ≠ e) (h2 : e ≠ 72) (hm : Mod (fun g => vr.ownBlock = some g) w w') : NT w0 w' t v T :=
  ⟨h.tab.mod hm (fun x => row_ne hr.own h.tab.box h1 x) (fun _ k1 k2 => rows_ne hr.own h.tab.row h2 k2 k1), h.mod.trans (hm.mono fun g _ hg => .inr (hr.new g hg)), h.ht, h.hv⟩

theorem NT.alloc {w0 w : World} {t : Nat} {v : Value} {T : HTbl} (h : NT w0 w t v T) (o : Obj) : NT w0 (w.alloc o) t v T :=
  h.step (h.tab.mod ((Mod.refl (fun _ => False) w).alloc o) (fun x => x) (fun _ _ x => x)) ((Mod.refl _ w).alloc o) (.inl rfl)
theorem IRow.alloc {w0 w : World} {e : TypeId} {k : IntKind} {v : Value} {xs : List Int} (h : IRow w0 w e k v xs) (o : Obj) : IRow w0 (w.alloc o) e k v xs :=
  h.mod ((Mod.refl (fun _ => False) w).alloc o) (fun _ _ x => x)

theorem NT.drew {w0 w : World} {t : Nat} {v : Value} {T : HTbl} (h : NT w0 w t v T) : NT w0 w.drew t v T := h.step (h.tab.of_heap rfl) ((Mod.refl _ w).drew) (.inl rfl)
theorem IRow.drew {w0 w : World} {e : TypeId} {k : IntKind} {v : Value} {xs : List Int} (h : IRow w0 w e k v xs) : IRow w0 w.drew e k v xs := h.of_heap rfl

/-- A block of another type stays where a table's call, or a row's growing, changes memory. -/
theorem Tab.keep {w w' : World} {t : Nat} {v : Value} {T : HTbl} (h : Tab w t v T) (hm : Mod (Own t v) w w') {b : Nat} {c : Array Value} {e : TypeId} {fz : Nat × Nat} (hb : w.heap[b]? = some (.cells c e fz)) (h1 : e ≠ 60) (h2 : e ≠ 72) : w'.heap[b]? = some (.cells c e fz) :=
  hm.at hb fun x => x.elim (fun y => by subst y; rw [h.box] at hb; simp only [Option.some.injEq, Obj.cells.injEq] at hb; exact h1 hb.2.1.symm) (fun y => row_ne h.row hb h2 y)
theorem IRow.keep {w0 w w' : World} {e e2 : TypeId} {k : IntKind} {v : Value} {xs : List Int} (h : IRow w0 w e k v xs) (hm : Mod (fun g => v.ownBlock = some g) w w') {b : Nat} {c : Array Value} {fz : Nat × Nat} (hb : w.heap[b]? = some (.cells c e2 fz)) (h1 : e2 ≠ e) : w'.heap[b]? = some (.cells c e2 fz) :=
  hm.at hb fun x => row_ne h.own hb h1 x
theorem NT.setCell {w0 w : World} {t : Nat} {v : Value} {T : HTbl} (h : NT w0 w t v T) {e : TypeId} {k : IntKind} {g n cap : Nat} {xs : List Int} (hr : IRow w0 w e k (.slice (some ⟨g, 0, none⟩) n cap) xs) (h1 : 60 ≠ e) (h2 : e ≠ 72) (i : Nat) (u : Value) : NT w0 (w.setCell ⟨g, i, none⟩ u) t v T :=
  h.mod_row hr h1 h2 ((Mod.refl _ w).setCell _ _ (.inl rfl))
theorem IRow.setCell {w0 w : World} {e e2 : TypeId} {k k2 : IntKind} {v : Value} {xs x2 : List Int} {g n cap : Nat} (h : IRow w0 w e k v xs) (hr : IRow w0 w e2 k2 (.slice (some ⟨g, 0, none⟩) n cap) x2) (hne : e ≠ e2) (i : Nat) (u : Value) : IRow w0 (w.setCell ⟨g, i, none⟩ u) e k v xs :=
  h.mod_row hr.own hne ((Mod.refl _ w).setCell _ _ (.inl rfl))
end Go.Proofs.Ytbcecgbnnpbjbaa
