/- What the methods of handle.Table compute, walked: a table in memory (Tab) and its calls. Conditions: the table is as Tab says; handles are 64-bit words, addresses 64-bit ints. -/
import Derived.Test.YtpcomekikeoliaaGreatDoorProg
import Derived.Test.YtpcomekikeoliaaGreatDoorGround
import Derived.Test.YtpcomekikeoliaaGreatDoorHandleSpec
import Derived.Outline
set_option linter.unusedVariables false
set_option linter.unusedSimpArgs false
set_option maxRecDepth 100000
namespace Go.Proofs.YtpcomekikeoliaaGreatDoor
open Go Go.RowKit

def rowOf (l : List HSlot) : List Value := l.flatMap fun s => [.int .i64 s.is, .int .u32 s.gen, .int .i64 s.addr]

theorem rowOf_cons (s : HSlot) (l : List HSlot) : rowOf (s :: l) = .int .i64 s.is :: .int .u32 s.gen :: .int .i64 s.addr :: rowOf l := rfl
theorem rowOf_len (l : List HSlot) : (rowOf l).length = l.length * 3 := by
  induction l with
  | nil => rfl
  | cons s l ih => rw [rowOf_cons]; simp only [List.length_cons, ih]; omega
theorem rowOf_append (l : List HSlot) (s : HSlot) : rowOf (l ++ [s]) = rowOf l ++ [.int .i64 s.is, .int .u32 s.gen, .int .i64 s.addr] := by simp [rowOf]
theorem rowOf_get (l : List HSlot) : ∀ (k : Nat) (s : HSlot), l[k]? = some s →
    (rowOf l)[k * 3]? = some (.int .i64 s.is) ∧ (rowOf l)[k * 3 + 1]? = some (.int .u32 s.gen) ∧ (rowOf l)[k * 3 + 2]? = some (.int .i64 s.addr) := by
  induction l with
  | nil => simp
  | cons x l ih =>
    intro k s h
    rw [rowOf_cons]
    cases k with
    | zero => simp at h; subst h; simp
    | succ k =>
      have := ih k s (by simpa using h)
      have e : (k + 1) * 3 = k * 3 + 1 + 1 + 1 := by omega
      rw [e]
      simpa using this
theorem rowOf_set (l : List HSlot) : ∀ (k : Nat) (s : HSlot), k < l.length →
    rowOf (l.set k s) = (((rowOf l).set (k * 3) (.int .i64 s.is)).set (k * 3 + 1) (.int .u32 s.gen)).set (k * 3 + 2) (.int .i64 s.addr) := by
  induction l with
  | nil => simp
  | cons x l ih =>
    intro k s h
    cases k with
    | zero => rw [List.set_cons_zero, rowOf_cons, rowOf_cons]; simp
    | succ k =>
      have := ih k s (by simpa using h)
      have e : (k + 1) * 3 = k * 3 + 1 + 1 + 1 := by omega
      rw [List.set_cons_succ, rowOf_cons, rowOf_cons, e, this]
      simp
theorem set_same {xs : List Value} {j : Nat} {v : Value} (h : xs[j]? = some v) : xs.set j v = xs := by
  apply List.ext_getElem?
  intro i
  rw [List.getElem?_set]
  split
  · rename_i e; subst e; rw [h]; split
    · rfl
    · rename_i hl; simp [List.getElem?_eq_none (Nat.not_lt.1 hl)] at h
  · rfl
theorem rowOf_setAddr {l : List HSlot} {k : Nat} {s : HSlot} (h : l[k]? = some s) (a : Int) : rowOf (l.set k { s with addr := a }) = (rowOf l).set (k * 3 + 2) (.int .i64 a) := by
  have g := rowOf_get l k s h
  rw [rowOf_set l k _ (List.getElem?_eq_some_iff.1 h).1, set_same g.1, set_same g.2.1]
theorem rowOf_setIs {l : List HSlot} {k : Nat} {s : HSlot} (h : l[k]? = some s) (a : Int) : rowOf (l.set k { s with is := a }) = (rowOf l).set (k * 3) (.int .i64 a) := by
  have g := rowOf_get l k s h
  have hl := (List.getElem?_eq_some_iff.1 h).1
  have hr := rowOf_len l
  rw [rowOf_set l k _ hl]
  have g1 : ((rowOf l).set (k * 3) (Value.int .i64 a))[k * 3 + 1]? = some (.int .u32 s.gen) := by rw [List.getElem?_set_ne (by omega)]; exact g.2.1
  have g2 : ((rowOf l).set (k * 3) (Value.int .i64 a))[k * 3 + 2]? = some (.int .i64 s.addr) := by rw [List.getElem?_set_ne (by omega)]; exact g.2.2
  show (((rowOf l).set (k * 3) (Value.int .i64 a)).set (k * 3 + 1) (.int .u32 s.gen)).set (k * 3 + 2) (.int .i64 s.addr) = _
  rw [set_same g1, set_same g2]

/-- A table in memory: its struct is block t, its slots are the row v. -/
structure Tab (w : World) (t : Nat) (v : Value) (T : HTbl) : Prop where
  box : w.heap[t]? = some (.cells #[.int .i64 T.most, .int .u32 T.last, v] 151 (0, 0))
  row : w.ownsRow 0 160 3 v T.l.length (rowOf T.l)
  ok : T.Ok

theorem Tab.ne {w : World} {t : Nat} {v : Value} {T : HTbl} (h : Tab w t v T) : v.ownBlock ≠ some t := row_ne h.row h.box (by decide)
theorem Tab.lt {w : World} {t : Nat} {v : Value} {T : HTbl} (h : Tab w t v T) : t < w.heap.size := lt_of_at h.box
theorem Tab.c0 {w : World} {t : Nat} {v : Value} {T : HTbl} (h : Tab w t v T) : w.cell? ⟨t, 0, none⟩ = some (.int .i64 T.most) := by rw [cell_at h.box]; rfl
theorem Tab.c1 {w : World} {t : Nat} {v : Value} {T : HTbl} (h : Tab w t v T) : w.cell? ⟨t, 1, none⟩ = some (.int .u32 T.last) := by rw [cell_at h.box]; rfl
theorem Tab.c2 {w : World} {t : Nat} {v : Value} {T : HTbl} (h : Tab w t v T) : w.cell? ⟨t, 2, none⟩ = some v := by rw [cell_at h.box]; rfl
theorem Tab.fz {w : World} {t : Nat} {v : Value} {T : HTbl} (h : Tab w t v T) (o : Nat) : w.frozen? ⟨t, o, none⟩ = false := frozen_at h.box o

/-- A table of a row: the slice's form. -/
theorem Tab.form {w : World} {t : Nat} {v : Value} {T : HTbl} (h : Tab w t v T) : ∃ sa len cap, v = .slice sa len cap ∧ len = T.l.length := by
  rcases h.row.2 with ⟨rfl, hn⟩ | ⟨g, cap, cur, rfl, _⟩
  · exact ⟨_, _, _, rfl, hn.symm⟩
  · exact ⟨_, _, _, rfl, rfl⟩

/-- A slot's three cells. -/
theorem Tab.slot {w : World} {t : Nat} {v : Value} {T : HTbl} (h : Tab w t v T) {k : Nat} {s : HSlot} (hs : T.l[k]? = some s) :
    ∃ g cap, v = .slice (some ⟨g, 0, none⟩) T.l.length cap ∧ k < T.l.length ∧ w.cell? ⟨g, k * 3, none⟩ = some (.int .i64 s.is) ∧ w.cell? ⟨g, k * 3 + 1, none⟩ = some (.int .u32 s.gen) ∧
      w.cell? ⟨g, k * 3 + 2, none⟩ = some (.int .i64 s.addr) ∧ (∀ o, w.frozen? ⟨g, o, none⟩ = false) ∧ g ≠ t := by
  have hk := (List.getElem?_eq_some_iff.1 hs).1
  obtain ⟨g, cap, rfl⟩ := Joins.ownsRow_form h.row (by omega)
  have hr := rowOf_get T.l k s hs
  refine ⟨g, cap, rfl, hk, ?_, ?_, ?_, fun o => h.row.frozenAt o, fun e => h.ne (by simp [Value.ownBlock, e])⟩
  · rw [h.row.cellAt _ (by omega)]; exact hr.1
  · rw [h.row.cellAt _ (by omega)]; exact hr.2.1
  · rw [h.row.cellAt _ (by omega)]; exact hr.2.2

theorem Tab.mod {S : Nat → Prop} {w w' : World} {t : Nat} {v : Value} {T : HTbl} (h : Tab w t v T) (hm : Mod S w w') (h1 : ¬ S t) (h2 : ∀ k, v.ownBlock = some k → ¬ S k) : Tab w' t v T :=
  ⟨hm.at h.box h1, hm.row h.row h2, h.ok⟩

theorem tnone_some (w : World) (t : Nat) (m : Int) (hm : (m == 0) = false) (h0 : w.cell? ⟨t, 0, none⟩ = some (.int .i64 m)) :
    Calls Tryz.prog 102 #[.pointer (some ⟨t, 0, none⟩)] w fun e w' => e = .returned (.bool false) ∧ w = w' := by
  go_enter Tryz.func102, Tryz.ntmps102
  go_wp2
  go_ret
  exact ⟨rfl, rfl⟩
theorem tnone_zero (w : World) (t : Nat) (m : Int) (hm : (m == 0) = true) (h0 : w.cell? ⟨t, 0, none⟩ = some (.int .i64 m)) :
    Calls Tryz.prog 102 #[.pointer (some ⟨t, 0, none⟩)] w fun e w' => e = .returned (.bool true) ∧ w = w' := by
  go_enter Tryz.func102, Tryz.ntmps102
  go_wp2
  go_ret
  exact ⟨rfl, rfl⟩
theorem tnone_nil (w : World) :
    Calls Tryz.prog 102 #[.pointer none] w fun e w' => e = .returned (.bool true) ∧ w = w' := by
  go_enter Tryz.func102, Tryz.ntmps102
  go_wp2
  go_ret
  exact ⟨rfl, rfl⟩
theorem Tab.there {w : World} {t : Nat} {v : Value} {T : HTbl} (h : Tab w t v T) :
    Calls Tryz.prog 102 #[.pointer (some ⟨t, 0, none⟩)] w fun e w' => e = .returned (.bool false) ∧ w = w' :=
  tnone_some w t T.most (beqF (by have := h.ok.most1; omega)) h.c0

theorem place_eq (n : Int) (h0 : 0 ≤ n) (h1 : n < 18446744073709551616) : wrap64 (wrap64 (bits BinOp.and IntKind.u64 n 4294967295) - 1) = HTbl.place n := by
  rw [and_low32 n h0 h1]; unfold wrap64 HTbl.place; omega

theorem of_neg (w : World) (t : Nat) (m : Int) (hm : (m == 0) = false) (h0 : w.cell? ⟨t, 0, none⟩ = some (.int .i64 m))
   (n k : Int) (hk : wrap64 (wrap64 (bits BinOp.and IntKind.u64 n 4294967295) - 1) = k) (hk0 : k < 0) :
    Calls Tryz.prog 103 #[.pointer (some ⟨t, 0, none⟩), .int .u64 n] w fun e w' => e = .returned (.tuple #[.pointer none, .int .i64 7]) ∧ w = w' := by
  go_enter Tryz.func103, Tryz.ntmps103
  go_wp2_with ((with_reducible refine (tnone_some _ _ _ hm h0).mono ?_); rintro e w' ⟨rfl, rfl⟩)
  go_ret2
  exact ⟨rfl, rfl⟩

theorem of_out (w : World) (t : Nat) (m : Int) (hm : (m == 0) = false) (h0 : w.cell? ⟨t, 0, none⟩ = some (.int .i64 m))
   (sa : Option Addr) (len cap : Nat) (h2 : w.cell? ⟨t, 2, none⟩ = some (.slice sa len cap))
   (n k : Int) (hk : wrap64 (wrap64 (bits BinOp.and IntKind.u64 n 4294967295) - 1) = k) (hk0 : 0 ≤ k) (hk1 : (len : Int) ≤ k) :
    Calls Tryz.prog 103 #[.pointer (some ⟨t, 0, none⟩), .int .u64 n] w fun e w' => e = .returned (.tuple #[.pointer none, .int .i64 7]) ∧ w = w' := by
  go_enter Tryz.func103, Tryz.ntmps103
  go_wp2_with ((with_reducible refine (tnone_some _ _ _ hm h0).mono ?_); rintro e w' ⟨rfl, rfl⟩)
  go_ret2
  exact ⟨rfl, rfl⟩

theorem of_shut (w : World) (t : Nat) (m : Int) (hm : (m == 0) = false) (h0 : w.cell? ⟨t, 0, none⟩ = some (.int .i64 m))
   (b len cap : Nat) (h2 : w.cell? ⟨t, 2, none⟩ = some (.slice (some ⟨b, 0, none⟩) len cap))
   (n : Int) (k : Nat) (hk : wrap64 (wrap64 (bits BinOp.and IntKind.u64 n 4294967295) - 1) = k) (hk1 : k < len)
   (i : Int) (hi : w.cell? ⟨b, k * 3, none⟩ = some (.int .i64 i)) (hi2 : (i != 1) = true) :
    Calls Tryz.prog 103 #[.pointer (some ⟨t, 0, none⟩), .int .u64 n] w fun e w' => e = .returned (.tuple #[.pointer none, .int .i64 7]) ∧ w = w' := by
  go_enter Tryz.func103, Tryz.ntmps103
  go_wp2_with ((with_reducible refine (tnone_some _ _ _ hm h0).mono ?_); rintro e w' ⟨rfl, rfl⟩)
  go_ret2
  exact ⟨rfl, rfl⟩

theorem of_gen (w : World) (t : Nat) (m : Int) (hm : (m == 0) = false) (h0 : w.cell? ⟨t, 0, none⟩ = some (.int .i64 m))
   (b len cap : Nat) (h2 : w.cell? ⟨t, 2, none⟩ = some (.slice (some ⟨b, 0, none⟩) len cap))
   (n : Int) (k : Nat) (hk : wrap64 (wrap64 (bits BinOp.and IntKind.u64 n 4294967295) - 1) = k) (hk0 : (0 : Int) ≤ k) (hk1 : k < len)
   (i g : Int) (hi : w.cell? ⟨b, k * 3, none⟩ = some (.int .i64 i)) (hi2 : (i != 1) = false)
   (hg : w.cell? ⟨b, k * 3 + 1, none⟩ = some (.int .u32 g)) (hg1 : (g != n / 4294967296 % 4294967296) = true) :
    Calls Tryz.prog 103 #[.pointer (some ⟨t, 0, none⟩), .int .u64 n] w fun e w' => e = .returned (.tuple #[.pointer none, .int .i64 7]) ∧ w = w' := by
  go_enter Tryz.func103, Tryz.ntmps103
  go_wp2_with ((with_reducible refine (tnone_some _ _ _ hm h0).mono ?_); rintro e w' ⟨rfl, rfl⟩)
  go_ret2
  exact ⟨rfl, rfl⟩

theorem of_ok (w : World) (t : Nat) (m : Int) (hm : (m == 0) = false) (h0 : w.cell? ⟨t, 0, none⟩ = some (.int .i64 m))
   (b len cap : Nat) (h2 : w.cell? ⟨t, 2, none⟩ = some (.slice (some ⟨b, 0, none⟩) len cap))
   (n : Int) (k : Nat) (hk : wrap64 (wrap64 (bits BinOp.and IntKind.u64 n 4294967295) - 1) = k) (hk0 : (0 : Int) ≤ k) (hk1 : k < len)
   (i g : Int) (hi : w.cell? ⟨b, k * 3, none⟩ = some (.int .i64 i)) (hi2 : (i != 1) = false)
   (hg : w.cell? ⟨b, k * 3 + 1, none⟩ = some (.int .u32 g)) (hg1 : (g != n / 4294967296 % 4294967296) = false) :
    Calls Tryz.prog 103 #[.pointer (some ⟨t, 0, none⟩), .int .u64 n] w fun e w' => e = .returned (.tuple #[.pointer (some ⟨b, k * 3, none⟩), .int .i64 0]) ∧ w = w' := by
  go_enter Tryz.func103, Tryz.ntmps103
  go_wp2_with ((with_reducible refine (tnone_some _ _ _ hm h0).mono ?_); rintro e w' ⟨rfl, rfl⟩)
  go_ret2
  exact ⟨rfl, rfl⟩

theorem Tab.of_dead {w : World} {t : Nat} {v : Value} {T : HTbl} (h : Tab w t v T) (n : Int) (n0 : 0 ≤ n) (n1 : n < 18446744073709551616) (hb : T.okB n = false) :
    Calls Tryz.prog 103 #[.pointer (some ⟨t, 0, none⟩), .int .u64 n] w fun e w' => e = .returned (.tuple #[.pointer none, .int .i64 7]) ∧ w = w' := by
  have hm : (T.most == 0) = false := beqF (by have := h.ok.most1; omega)
  have hp := place_eq n n0 n1
  by_cases c1 : HTbl.place n < 0
  · exact of_neg w t T.most hm h.c0 n _ hp c1
  obtain ⟨k, hk⟩ := Int.eq_ofNat_of_zero_le (Int.not_lt.1 c1)
  rw [hk] at hp
  cases hs : T.l[k]? with
  | none =>
    obtain ⟨sa, len, cap, rfl, hl⟩ := h.form
    have hle := List.getElem?_eq_none_iff.1 hs
    exact of_out w t T.most hm h.c0 sa len cap h.c2 n _ hp (by omega) (by omega)
  | some s =>
    obtain ⟨g, cap, rfl, hkl, a0, a1, a2, _⟩ := h.slot hs
    by_cases c2 : s.is = 1
    · by_cases c3 : s.gen = n / 4294967296
      · exact absurd (HTbl.okB_of (T := T) (h := n) (s := s) (by omega) (by rw [hk]; exact hs) c2 c3) (by simp [hb])
      · exact of_gen w t T.most hm h.c0 g _ cap h.c2 n k hp (by omega) hkl s.is s.gen a0 (bneF c2) a1 (bneT (by omega))
    · exact of_shut w t T.most hm h.c0 g _ cap h.c2 n k hp hkl s.is a0 (bneT c2)

theorem Tab.of_live {w : World} {t : Nat} {v : Value} {T : HTbl} (h : Tab w t v T) (n : Int) (n0 : 0 ≤ n) (n1 : n < 18446744073709551616) (hb : T.okB n = true) :
    ∃ g cap s, v = .slice (some ⟨g, 0, none⟩) T.l.length cap ∧ T.l[(HTbl.place n).toNat]? = some s ∧
    Calls Tryz.prog 103 #[.pointer (some ⟨t, 0, none⟩), .int .u64 n] w fun e w' => e = .returned (.tuple #[.pointer (some ⟨g, (HTbl.place n).toNat * 3, none⟩), .int .i64 0]) ∧ w = w' := by
  have hm : (T.most == 0) = false := beqF (by have := h.ok.most1; omega)
  have hp := place_eq n n0 n1
  obtain ⟨c1, s, hs, c2, c3⟩ := HTbl.okB_place hb
  obtain ⟨k, hk⟩ := Int.eq_ofNat_of_zero_le c1
  simp only [hk, Int.toNat_natCast] at hp hs c3 ⊢
  obtain ⟨g, cap, rfl, hkl, a0, a1, a2, _⟩ := h.slot hs
  exact ⟨g, cap, s, rfl, hs, of_ok w t T.most hm h.c0 g _ cap h.c2 n k hp (by omega) hkl s.is s.gen a0 (bneF c2) a1 (bneF (by omega))⟩
end Go.Proofs.YtpcomekikeoliaaGreatDoor
