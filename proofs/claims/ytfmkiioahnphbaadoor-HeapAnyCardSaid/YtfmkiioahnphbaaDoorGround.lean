/- General lemmas for all texts of this seat: what a call may have changed (Mod), small facts on words and lists. No condition. | One element more behind a row of the call's own: the row's block is the old one or a new one. No condition beyond the row's bounds. | Objects in memory, each in blocks of its own, apart from each other: what a call on one of them leaves of the others. No condition. | Maps from ints to pointers, as lists of keys and the blocks that they lead to. No condition. | The plain law of package slab: an arena's calls, as functions on a rising list of pages and a memory of words. No program stands here. No condition. -/
import Derived.WalkKit
import Derived.Lib.SmallJoins
import Derived.Lib.Hide
import Derived.Outline
import Derived.Maps.AppendAt
import Derived.Maps.OwnSet
import Derived.Lib.SlKeysI
set_option linter.unusedVariables false
set_option linter.unusedSimpArgs false
set_option maxRecDepth 100000
namespace Go.Proofs.YtfmkiioahnphbaaDoor
open Go Go.RowKit

/-- w' is w with new blocks, and of the old ones only those in S may have changed. -/
structure Mod (S : Nat → Prop) (w w' : World) : Prop where
  os : w'.os = w.os
  tape : w'.tape = w.tape
  output : w'.output = w.output
  size : w.heap.size ≤ w'.heap.size
  block : ∀ k, k < w.heap.size → ¬ S k → w'.heap[k]? = w.heap[k]?

theorem Mod.refl (S : Nat → Prop) (w : World) : Mod S w w := ⟨rfl, rfl, rfl, Nat.le_refl _, fun _ _ _ => rfl⟩

theorem Mod.mono {S S' : Nat → Prop} {w w' : World} (h : Mod S w w') (hs : ∀ k, k < w.heap.size → S k → S' k) : Mod S' w w' :=
  ⟨h.os, h.tape, h.output, h.size, fun k hk hn => h.block k hk (fun x => hn (hs k hk x))⟩

theorem Mod.trans {S : Nat → Prop} {a b c : World} (h : Mod S a b) (k : Mod (fun i => S i ∨ a.heap.size ≤ i) b c) : Mod S a c :=
  ⟨k.os.trans h.os, k.tape.trans h.tape, k.output.trans h.output, Nat.le_trans h.size k.size, fun i hi hn =>
    (k.block i (Nat.lt_of_lt_of_le hi h.size) (fun x => x.elim hn (fun y => absurd hi (Nat.not_lt.2 y)))).trans (h.block i hi hn)⟩

theorem Mod.trans' {S : Nat → Prop} {a b c : World} (h : Mod S a b) (k : Mod S b c) : Mod S a c := h.trans (k.mono fun _ _ x => .inl x)

theorem Mod.drew {S : Nat → Prop} {a w : World} (h : Mod S a w) : Mod S a w.drew := ⟨h.os, h.tape, h.output, h.size, h.block⟩

theorem Mod.alloc {S : Nat → Prop} {a w : World} (h : Mod S a w) (o : Obj) : Mod S a (w.alloc o) :=
  h.trans ⟨rfl, rfl, rfl, by simp, fun k hk _ => Below.heap_alloc _ _ _ hk⟩

theorem Mod.setCell {S : Nat → Prop} {a w : World} (h : Mod S a w) (p : Addr) (u : Value) (hp : S p.block ∨ a.heap.size ≤ p.block) : Mod S a (w.setCell p u) :=
  h.trans ⟨rfl, rfl, rfl, by simp [World.setCell], fun k _ hk => Below.heap_setCell _ _ _ _ (fun e => hk (e ▸ hp))⟩

theorem Mod.grown {S : Nat → Prop} {a w w' : World} {row : Option Nat} (h : Mod S a w) (hg : w.grownBy w' row) (hr : ∀ k, row = some k → S k ∨ a.heap.size ≤ k) : Mod S a w' :=
  h.trans ⟨hg.os, hg.tape, hg.output, hg.size, fun k hk hn => hg.block k hk (fun e => hn (hr k e.symm))⟩

theorem Mod.of_below {w w' : World} (h : Below w.heap.size w w') (S : Nat → Prop) : Mod S w w' := ⟨h.os, h.tape, h.output, h.size, fun k hk _ => h.block k hk⟩

theorem Mod.below {w w' : World} {S : Nat → Prop} (h : Mod S w w') (B : Nat) (hB : B ≤ w.heap.size) (hs : ∀ k, k < B → ¬ S k) : Below B w w' :=
  ⟨h.os, h.tape, h.output, h.size, fun k hk => h.block k (by omega) (hs k hk)⟩

theorem Mod.cell {S : Nat → Prop} {w w' : World} (h : Mod S w w') {b o : Nat} {v : Value} (hv : w.cell? ⟨b, o, none⟩ = some v) (hs : ¬ S b) : w'.cell? ⟨b, o, none⟩ = some v := by
  have hb : b < w.heap.size := by
    rcases Nat.lt_or_ge b w.heap.size with h | h
    · exact h
    · simp [World.cell?, Array.getElem?_eq_none h] at hv
  rw [World.cell?_of_block (w := w) (h.block b hb hs)]; exact hv

theorem Mod.at {S : Nat → Prop} {w w' : World} (h : Mod S w w') {b : Nat} {o : Obj} (hv : w.heap[b]? = some o) (hs : ¬ S b) : w'.heap[b]? = some o := by
  have hb : b < w.heap.size := by
    rcases Nat.lt_or_ge b w.heap.size with h | h
    · exact h
    · simp [Array.getElem?_eq_none h] at hv
  rw [h.block b hb hs]; exact hv

theorem lt_of_at {w : World} {b : Nat} {o : Obj} (hv : w.heap[b]? = some o) : b < w.heap.size := by
  rcases Nat.lt_or_ge b w.heap.size with h | h
  · exact h
  · simp [Array.getElem?_eq_none h] at hv

theorem Mod.row {S : Nat → Prop} {w w' : World} (h : Mod S w w') {base : Nat} {e : TypeId} {size : Nat} {v : Value} {n : Nat} {xs : List Value}
    (hr : w.ownsRow base e size v n xs) (hs : ∀ k, v.ownBlock = some k → ¬ S k) : w'.ownsRow base e size v n xs := by
  refine ⟨hr.1, ?_⟩
  rcases hr.2 with h' | ⟨g, cap, cur, rfl, hb, hg, r⟩
  · exact .inl h'
  · exact .inr ⟨g, cap, cur, rfl, hb, h.at hg (hs g rfl), r⟩

/-- A block of cells, whole. -/
theorem cell_at {w : World} {b : Nat} {c : Array Value} {e : TypeId} {fz : Nat × Nat} (h : w.heap[b]? = some (.cells c e fz)) (o : Nat) : w.cell? ⟨b, o, none⟩ = c[o]? := by simp [World.cell?, h]
theorem frozen_at {w : World} {b : Nat} {c : Array Value} {e : TypeId} (h : w.heap[b]? = some (.cells c e (0, 0))) (o : Nat) : w.frozen? ⟨b, o, none⟩ = false := by simp [World.frozen?, h]
theorem at_setCell {w : World} {b : Nat} {c : Array Value} {e : TypeId} {fz : Nat × Nat} (h : w.heap[b]? = some (.cells c e fz)) (o : Nat) (v : Value) :
    (w.setCell ⟨b, o, none⟩ v).heap[b]? = some (.cells (c.setIfInBounds o v) e fz) := by
  simp [World.setCell, Array.getElem?_modify, h]
theorem at_setCell_ne {w : World} {b : Nat} (p : Addr) (v : Value) (hb : b ≠ p.block) : (w.setCell p v).heap[b]? = w.heap[b]? := Below.heap_setCell _ _ _ _ hb

/-- A row of one type and a block of another are two blocks. -/
theorem row_ne {w : World} {base : Nat} {e T : TypeId} {size : Nat} {v : Value} {n : Nat} {xs : List Value} (hr : w.ownsRow base e size v n xs) {b : Nat} {c : Array Value} {fz : Nat × Nat}
    (hb : w.heap[b]? = some (.cells c T fz)) (hT : T ≠ e) : v.ownBlock ≠ some b := by
  intro h
  rcases hr.2 with ⟨rfl, _⟩ | ⟨g, cap, cur, rfl, _, hg, _⟩
  · simp [Value.ownBlock] at h
  · simp only [Value.ownBlock, Option.some.injEq] at h
    subst h
    rw [hg] at hb
    simp only [Option.some.injEq, Obj.cells.injEq] at hb
    exact hT hb.2.1.symm

/-- Facts on ints in the walk's spelling. -/
theorem beqT {a b : Int} (h : a = b) : (a == b) = true := by simp [h]
theorem beqF {a b : Int} (h : a ≠ b) : (a == b) = false := by simp [h]
theorem bneT {a b : Int} (h : a ≠ b) : (a != b) = true := by simp [h]
theorem bneF {a b : Int} (h : a = b) : (a != b) = false := by simp [h]
theorem ltT {a b : Int} (h : a < b) : decide (a < b) = true := by simp [h]
theorem ltF {a b : Int} (h : b ≤ a) : decide (a < b) = false := by simp; omega
theorem leT {a b : Int} (h : a ≤ b) : decide (a ≤ b) = true := by simp [h]
theorem leF {a b : Int} (h : b < a) : decide (a ≤ b) = false := by simp; omega

theorem and_low32 (n : Int) (h0 : 0 ≤ n) (h1 : n < 18446744073709551616) : bits .and .u64 n 4294967295 = n % 4294967296 := by
  rw [u64_and n 4294967295 h0 h1 (by omega) (by omega)]
  have e : n.toNat &&& (4294967295 : Int).toNat = n.toNat % 4294967296 := Nat.and_two_pow_sub_one_eq_mod n.toNat 32
  rw [e]; omega

theorem or_high32 (g b : Int) (hg0 : 0 ≤ g) (hg1 : g < 4294967296) (hb0 : 0 ≤ b) (hb1 : b < 4294967296) : bits .or .u64 (g * 4294967296) b = g * 4294967296 + b := by
  rw [u64_or _ _ (by omega) (by omega) hb0 (by omega), nat_join 32 _ _ (by omega) (by omega)]
  omega

theorem ret_of {a b : Value} (h : a = b) : Ending.returned a = .returned b := by rw [h]
end Go.Proofs.YtfmkiioahnphbaaDoor

namespace Go.Proofs.YtfmkiioahnphbaaDoor
open Go Go.RowKit

/-- The new cells of a block that was just made. -/
theorem news_alloc (w : World) (cs : List Value) (T : TypeId) : ∀ (j : Nat) (u : Value), cs[j]? = some u → (w.alloc (.cells cs.toArray T)).cell? ((⟨w.heap.size, 0, none⟩ : Addr).add j) = some u := by
  intro j u hu
  have e : (⟨w.heap.size, 0, none⟩ : Addr).add j = ⟨w.heap.size, j, none⟩ := by unfold Addr.add; split <;> simp_all
  rw [e, cell_at (heap_alloc_new w _)]
  simpa using hu

section
variable {P : Program}

theorem run_append_one (w : World) (t ty e : TypeId) (i : TypeInfo) (z : Value) (size bytes : Nat) (ht : P.underlying t = some (.slice e)) (hi : P.info? e = some i) (hz : i.zero = some z)
    (hsize : i.size = size) (hby : i.bytes = bytes) (hzs : z.cells.size = size) (hsz : 0 < size)
    (v : Value) (n : Nat) (xs : List Value) (hown : w.ownsRow 0 e size v n xs) (news : List Value) (hl : news.length = size) (h1 : ∀ u ∈ news, u.oneCell' = true)
    (h63 : n + 1 ≤ maxLen) (hbytes : (n + 1) * bytes ≤ 140737488355328) (T : TypeId) :
    ∃ g cap w', (Builtin.append_ #[t, t] ty #[v, .slice (some ⟨w.heap.size, 0, none⟩) 1 1]).run P (w.alloc (.cells news.toArray T)) = .ok (.slice (some ⟨g, 0, none⟩) (n + 1) cap) w' ∧
      w'.ownsRow 0 e size (.slice (some ⟨g, 0, none⟩) (n + 1) cap) (n + 1) (xs ++ news) ∧ Mod (fun k => v.ownBlock = some k) w w' ∧ (v.ownBlock = some g ∨ w.heap.size ≤ g) := by
  have hnews := news_alloc w news T
  have hown1 := hown.alloc (.cells news.toArray T)
  obtain ⟨v', w', hr, hown', hg, hnil⟩ := run_append_own (P := P) (w.alloc (.cells news.toArray T)) 0 t ty e i z size bytes ht hi hz hsize hby hzs hsz v n xs hown1 ⟨w.heap.size, 0, none⟩ 1 1 news (by omega) hnews h1 h63 hbytes (Nat.zero_le _)
  obtain ⟨g, cap, rfl⟩ := Joins.ownsRow_form hown' (by omega)
  have hm : Mod (fun k => v.ownBlock = some k) w w' := ((Mod.refl _ w).alloc _).grown hg (fun k hk => .inl hk)
  refine ⟨g, cap, w', hr, hown', hm, ?_⟩
  rcases hown1.2 with ⟨rfl, rfl⟩ | ⟨g0, cap0, cur, rfl, _, hgg, hnc, _, hcs, htake⟩
  · have hx : xs = [] := List.eq_nil_of_length_eq_zero (by simpa using hown.1)
    subst hx
    obtain ⟨v2, w2, hr2, hown2, _⟩ := run_append_own (P := P) (w.alloc (.cells news.toArray T)) w.heap.size t ty e i z size bytes ht hi hz hsize hby hzs hsz (.slice none 0 0) 0 [] (World.ownsRow_nil _ _ _ _) ⟨w.heap.size, 0, none⟩ 1 1 news (by omega) hnews h1 h63 hbytes (by simp)
    rw [hr] at hr2
    simp only [Result.ok.injEq] at hr2
    obtain ⟨rfl, rfl⟩ := hr2
    exact .inr (hown2.lt g rfl).1
  · by_cases hroom : n + 1 ≤ cap0
    · have hr2 := run_append_room (P := P) (w.alloc (.cells news.toArray T)) t ty e i ht hi g0 n cap0 cur hgg ⟨w.heap.size, 0, none⟩ 1 1 news (by omega) hnews h1 hroom
        (by rw [hsize, hl, hcs]; have := Nat.mul_le_mul_right size hroom; rw [Nat.add_mul] at this; omega)
      rw [hr] at hr2
      simp only [Result.ok.injEq, Value.slice.injEq, Option.some.injEq, Addr.mk.injEq, and_true, true_and] at hr2
      exact .inl (by rw [hr2.1.1]; rfl)
    · have hr2 := run_append_grow (P := P) (w.alloc (.cells news.toArray T)) t ty e i z ht hi hz ⟨g0, 0, none⟩ n cap0 xs (by rw [hsize]; exact hown.1) (hown1.cells rfl) ⟨w.heap.size, 0, none⟩ 1 1 news (by omega) hnews (by omega)
        (by simp only [maxLen] at h63; omega) (by rw [hby]; exact growslice_fits (by omega) hbytes)
      rw [hr] at hr2
      simp only [Result.ok.injEq, Value.slice.injEq, Option.some.injEq, Addr.mk.injEq, and_true, true_and] at hr2
      exact .inr (by rw [hr2.1.1]; simp)

/-- The law for the walk: append of one element that was laid in a block of its own just before. -/
theorem wpList_append_one {ops : Array Oper} {rest : List Oper} {o : Oper} {a : Act} {Q : Exit → Act → World → Prop} (w : World) (hgd : o.guard = none) (s x : Operand) (t : TypeId)
    (ho : o.op = .call { callee := .builtin .append, args := #[s, x], argTypes := #[t, t] })
    (e : TypeId) (i : TypeInfo) (z : Value) (size bytes : Nat) (ht : P.underlying t = some (.slice e)) (hi : P.info? e = some i) (hz : i.zero = some z)
    (hsize : i.size = size) (hby : i.bytes = bytes) (hzs : z.cells.size = size) (hsz : 0 < size)
    (v : Value) (n : Nat) (xs : List Value) (hs : a.eval s = v) (hown : w.ownsRow 0 e size v n xs)
    (news : List Value) (hx : a.eval x = .slice (some ⟨w.heap.size, 0, none⟩) 1 1) (hl : news.length = size) (h1 : ∀ u ∈ news, u.oneCell' = true) (T : TypeId)
    (h63 : n + 1 ≤ maxLen) (hbytes : (n + 1) * bytes ≤ 140737488355328)
    (h : ∀ g cap w', w'.ownsRow 0 e size (.slice (some ⟨g, 0, none⟩) (n + 1) cap) (n + 1) (xs ++ news) → Mod (fun k => v.ownBlock = some k) w w' → (v.ownBlock = some g ∨ w.heap.size ≤ g) →
      wpList P ops Q rest (a.put o.dst (.slice (some ⟨g, 0, none⟩) (n + 1) cap)) w') : wpList P ops Q (o :: rest) a (w.alloc (.cells news.toArray T)) :=
  wpList_plain hgd fun K hK => by
    obtain ⟨g, cap, w', hr, h2, h3, h4⟩ := run_append_one (P := P) w t o.type e i z size bytes ht hi hz hsize hby hzs hsz v n xs hown news hl h1 h63 hbytes T
    unfold Oper.wp execOp
    simp only [ho, resolve, invoke, builtin, Sem.run_bind, Sem.run_pure, Result.andThen_ok, List.map_toArray, List.map_cons, List.map_nil, hs, hx, hr]
    exact hK _ _ (h g cap w' h2 h3 h4)

/-- The same for rows of one cell an element; the new block's number may be spelled otherwise. -/
theorem wpList_append_cell {ops : Array Oper} {rest : List Oper} {o : Oper} {a : Act} {Q : Exit → Act → World → Prop} (w : World) (hgd : o.guard = none) (s x : Operand) (t : TypeId)
    (ho : o.op = .call { callee := .builtin .append, args := #[s, x], argTypes := #[t, t] })
    (e : TypeId) (i : TypeInfo) (z : Value) (bytes : Nat) (ht : P.underlying t = some (.slice e)) (hi : P.info? e = some i) (hz : i.zero = some z)
    (hsize : i.size = 1) (hby : i.bytes = bytes) (hzs : z.cells.size = 1)
    (v : Value) (n : Nat) (xs : List Value) (hs : a.eval s = v) (hown : w.ownsRow 0 e 1 v n xs)
    (u : Value) (T m : Nat) (hx : a.eval x = .slice (some ⟨m, 0, none⟩) 1 1) (hm : m = w.heap.size) (h1 : u.oneCell' = true)
    (h63 : n + 1 ≤ maxLen) (hbytes : (n + 1) * bytes ≤ 140737488355328)
    (h : ∀ g cap w', w'.ownsRow 0 e 1 (.slice (some ⟨g, 0, none⟩) (n + 1) cap) (n + 1) (xs ++ [u]) → Mod (fun k => v.ownBlock = some k) w w' → (v.ownBlock = some g ∨ w.heap.size ≤ g) →
      wpList P ops Q rest (a.put o.dst (.slice (some ⟨g, 0, none⟩) (n + 1) cap)) w') : wpList P ops Q (o :: rest) a (w.alloc (.cells #[u] T)) :=
  wpList_append_one w hgd s x t ho e i z 1 bytes ht hi hz hsize hby hzs (by decide) v n xs hs hown [u] (hm ▸ hx) rfl (by simp [h1]) T h63 hbytes h
end
end Go.Proofs.YtfmkiioahnphbaaDoor

namespace Go.Proofs.YtfmkiioahnphbaaDoor
open Go Go.RowKit

/-- What is said of some blocks of a world, and stays said while these blocks stay. -/
structure Res where
  P : World → (Nat → Prop) → Prop
  keep : ∀ {w w' : World} {F : Nat → Prop}, P w F → (∀ k, F k → w'.heap[k]? = w.heap[k]?) → P w' F
  lt : ∀ {w : World} {F : Nat → Prop}, P w F → ∀ k, F k → k < w.heap.size

/-- w is w0 with new blocks and changes in F0's; in the new ones and in F0's lie the objects Ps, no two in one block. -/
structure Sep (F0 : Nat → Prop) (w0 w : World) (Ps : List Res) : Prop where
  mod : Mod F0 w0 w
  foot : ∃ Fs : Nat → Nat → Prop, (∀ i R, Ps[i]? = some R → R.P w (Fs i) ∧ ∀ k, Fs i k → F0 k ∨ w0.heap.size ≤ k) ∧
    ∀ i j, i ≠ j → i < Ps.length → j < Ps.length → ∀ k, Fs i k → Fs j k → False

/-- No block. -/
abbrev No : Nat → Prop := fun _ => False

variable {F0 : Nat → Prop} {w0 w w' : World} {Ps : List Res}

theorem Sep.nil (w : World) : Sep No w w [] := ⟨Mod.refl _ w, fun _ _ => False, by simp, by simp⟩

theorem Sep.below (h : Sep No w0 w Ps) : Below w0.heap.size w0 w := h.mod.below _ (Nat.le_refl _) (fun _ _ x => x)
theorem Sep.old (h : Sep No w0 w Ps) {b o : Nat} {v : Value} (hv : w0.cell? ⟨b, o, none⟩ = some v) : w.cell? ⟨b, o, none⟩ = some v := h.mod.cell hv (fun x => x)
theorem Sep.size (h : Sep F0 w0 w Ps) : w0.heap.size ≤ w.heap.size := h.mod.size

/-- New blocks and nothing else: all objects stay. -/
theorem Sep.more (h : Sep F0 w0 w Ps) (hm : Mod No w w') : Sep F0 w0 w' Ps := by
  obtain ⟨hmod, Fs, h1, h2⟩ := h
  refine ⟨hmod.trans (hm.mono fun _ _ x => x.elim), Fs, fun i R hi => ⟨R.keep (h1 i R hi).1 fun k hk => hm.block k (R.lt (h1 i R hi).1 k hk) (fun x => x), (h1 i R hi).2⟩, h2⟩

theorem Sep.drew (h : Sep F0 w0 w Ps) : Sep F0 w0 w.drew Ps := h.more (Mod.refl _ w).drew
theorem Sep.drewN (h : Sep F0 w0 w Ps) (n : Nat) : Sep F0 w0 (w.drewN n) Ps := h.more ⟨rfl, rfl, rfl, Nat.le_refl _, fun _ _ _ => rfl⟩
theorem Sep.alloc (h : Sep F0 w0 w Ps) (o : Obj) : Sep F0 w0 (w.alloc o) Ps := h.more ((Mod.refl _ w).alloc o)

/-- One object: what is said of it; and what a change of its blocks alone leaves. -/
theorem Sep.at_ (h : Sep F0 w0 w Ps) (i : Nat) {R : Res} (hi : Ps[i]? = some R) :
    ∃ F, R.P w F ∧ (∀ k, F k → F0 k ∨ w0.heap.size ≤ k) ∧ ∀ (R' : Res) (w' : World) (F' : Nat → Prop), R'.P w' F' → Mod F w w' → (∀ k, F' k → F k ∨ w.heap.size ≤ k) → Sep F0 w0 w' (Ps.set i R') := by
  obtain ⟨hmod, Fs, h1, h2⟩ := h
  have hil : i < Ps.length := (List.getElem?_eq_some_iff.1 hi).1
  refine ⟨Fs i, (h1 i R hi).1, (h1 i R hi).2, fun R' w' F' hP hm hF => ⟨hmod.trans (hm.mono fun k _ hk => (h1 i R hi).2 k hk), fun j => if j = i then F' else Fs j, fun j Q hj => ?_, fun j l hjl hj hl k k1 k2 => ?_⟩⟩
  · rw [List.getElem?_set] at hj
    by_cases e : i = j
    · subst e
      rw [if_pos rfl, if_pos hil] at hj
      cases hj
      simp only [if_pos]
      exact ⟨hP, fun k hk => (hF k hk).elim ((h1 i R hi).2 k) (fun x => .inr (Nat.le_trans hmod.size x))⟩
    · rw [if_neg e] at hj
      simp only [if_neg (Ne.symm e)]
      refine ⟨Q.keep (h1 j Q hj).1 fun k hk => hm.block k (Q.lt (h1 j Q hj).1 k hk) (fun x => h2 i j e hil (List.getElem?_eq_some_iff.1 hj).1 k x hk), (h1 j Q hj).2⟩
  · rw [List.length_set] at hj hl
    have far : ∀ j, j ≠ i → j < Ps.length → ∀ k, F' k → Fs j k → False := fun j hji hj k k1 k2 =>
      (hF k k1).elim (fun x => h2 i j (Ne.symm hji) hil hj k x k2) (fun x => by
        have := (Ps[j]).lt (h1 j _ (List.getElem?_eq_getElem hj)).1 k k2
        omega)
    by_cases e1 : j = i
    · subst e1
      simp only [if_pos] at k1
      simp only [if_neg (Ne.symm hjl)] at k2
      exact far l (Ne.symm hjl) hl k k1 k2
    · simp only [if_neg e1] at k1
      by_cases e2 : l = i
      · subst e2
        simp only [if_pos] at k2
        exact far j e1 hj k k2 k1
      · simp only [if_neg e2] at k2
        exact h2 j l hjl hj hl k k1 k2

/-- A new object, in new blocks. -/
theorem Sep.push (h : Sep F0 w0 w Ps) (R : Res) (F : Nat → Prop) (hP : R.P w' F) (hm : Mod No w w') (hF : ∀ k, F k → w.heap.size ≤ k) : Sep F0 w0 w' (Ps ++ [R]) := by
  obtain ⟨hmod, Fs, h1, h2⟩ := h
  refine ⟨hmod.trans (hm.mono fun _ _ x => x.elim), fun j => if j = Ps.length then F else Fs j, fun j Q hj => ?_, fun j l hjl hj hl k k1 k2 => ?_⟩
  · rw [List.getElem?_append] at hj
    split at hj
    · rename_i hlt
      simp only [if_neg (Nat.ne_of_lt hlt)]
      exact ⟨Q.keep (h1 j Q hj).1 fun k hk => hm.block k (Q.lt (h1 j Q hj).1 k hk) (fun x => x), (h1 j Q hj).2⟩
    · rename_i hge
      have e : j = Ps.length := by
        rcases Nat.lt_or_ge Ps.length j with h | h
        · rw [List.getElem?_eq_none (by simp; omega)] at hj; simp at hj
        · omega
      subst e
      simp at hj
      subst hj
      simp only [if_pos]
      exact ⟨hP, fun k hk => .inr (Nat.le_trans hmod.size (hF k hk))⟩
  · simp only [List.length_append, List.length_cons, List.length_nil] at hj hl
    have far : ∀ j, j < Ps.length → ∀ k, F k → Fs j k → False := fun j hj k k1 k2 => by
      have := (Ps[j]).lt (h1 j _ (List.getElem?_eq_getElem hj)).1 k k2
      have := hF k k1
      omega
    dsimp only at k1 k2
    by_cases e1 : j = Ps.length
    · rw [if_pos e1] at k1
      rw [if_neg (by omega)] at k2
      exact far l (by omega) k k1 k2
    · rw [if_neg e1] at k1
      by_cases e2 : l = Ps.length
      · rw [if_pos e2] at k2
        exact far j (by omega) k k2 k1
      · rw [if_neg e2] at k2
        exact h2 j l hjl (by omega) (by omega) k k1 k2

/-- Objects that were made since. -/
theorem Sep.join {Qs : List Res} (h : Sep F0 w0 w Ps) (k : Sep No w w' Qs) : Sep F0 w0 w' (Ps ++ Qs) := by
  have h' := h.more k.mod
  obtain ⟨hmod, Fs, h1, h2⟩ := h
  obtain ⟨kmod, Gs, g1, g2⟩ := k
  have far : ∀ p q, p < Ps.length → q < Qs.length → ∀ k, Fs p k → Gs q k → False := fun p q hp hq k k1 k2 => by
    have a := (Ps[p]).lt (h1 p _ (List.getElem?_eq_getElem hp)).1 k k1
    have b := (g1 q _ (List.getElem?_eq_getElem hq)).2 k k2
    exact b.elim id (fun x => by omega)
  refine ⟨h'.mod, fun j => if j < Ps.length then Fs j else Gs (j - Ps.length), fun j Q hj => ?_, fun p q hpq hp hq k k1 k2 => ?_⟩
  · rw [List.getElem?_append] at hj
    split at hj
    · rename_i hlt
      simp only [if_pos hlt]
      exact ⟨Q.keep (h1 j Q hj).1 fun k hk => kmod.block k (Q.lt (h1 j Q hj).1 k hk) (fun x => x), (h1 j Q hj).2⟩
    · rename_i hge
      simp only [if_neg hge]
      exact ⟨(g1 _ Q hj).1, fun k hk => ((g1 _ Q hj).2 k hk).elim (fun x => x.elim) (fun x => .inr (Nat.le_trans hmod.size x))⟩
  · simp only [List.length_append] at hp hq
    dsimp only at k1 k2
    by_cases e1 : p < Ps.length
    · rw [if_pos e1] at k1
      by_cases e2 : q < Ps.length
      · rw [if_pos e2] at k2; exact h2 p q hpq e1 e2 k k1 k2
      · rw [if_neg e2] at k2; exact far p _ e1 (by omega) k k1 k2
    · rw [if_neg e1] at k1
      by_cases e2 : q < Ps.length
      · rw [if_pos e2] at k2; exact far q _ e2 (by omega) k k2 k1
      · rw [if_neg e2] at k2
        exact g2 _ _ (by omega) (by omega) (by omega) k k1 k2

/-- Some of the objects, in another order. -/
theorem Sep.pick {Qs : List Res} (h : Sep F0 w0 w Ps) (f : Nat → Nat) (hf : ∀ i, i < Qs.length → Qs[i]? = Ps[f i]?) (hinj : ∀ i j, i < Qs.length → j < Qs.length → i ≠ j → f i ≠ f j) : Sep F0 w0 w Qs := by
  obtain ⟨hmod, Fs, h1, h2⟩ := h
  refine ⟨hmod, fun j => Fs (f j), fun j Q hj => h1 (f j) Q ((hf j (List.getElem?_eq_some_iff.1 hj).1).symm.trans hj), fun i j hij hi hj k k1 k2 => ?_⟩
  have lt : ∀ i, i < Qs.length → f i < Ps.length := fun i hi => by
    have := (hf i hi).symm
    rw [List.getElem?_eq_getElem hi] at this
    exact (List.getElem?_eq_some_iff.1 this).1
  exact h2 (f i) (f j) (hinj i j hi hj hij) (lt i hi) (lt j hj) k k1 k2

/-- The first objects alone. -/
theorem Sep.left {Qs : List Res} (h : Sep F0 w0 w (Ps ++ Qs)) : Sep F0 w0 w Ps :=
  h.pick (fun i => i) (fun i hi => by rw [List.getElem?_append_left hi]) (fun _ _ _ _ h => h)

/-- The objects at the places is become others; what there is more stands at the end. -/
def setAt : List Res → List Nat → List Res → List Res
  | Ps, [], Rs => Ps ++ Rs
  | Ps, i :: is, R :: Rs => setAt (Ps.set i R) is Rs
  | Ps, _ :: _, [] => Ps

theorem setAt_spec : ∀ (is : List Nat) (Ps Rs : List Res), is.Nodup → (∀ i ∈ is, i < Ps.length) → is.length ≤ Rs.length →
    (∀ (j i : Nat), is[j]? = some i → (setAt Ps is Rs)[i]? = Rs[j]?) ∧ (∀ p, p < Ps.length → p ∉ is → (setAt Ps is Rs)[p]? = Ps[p]?) ∧
    (∀ m, (setAt Ps is Rs)[Ps.length + m]? = Rs[is.length + m]?)
  | [], Ps, Rs, _, _, _ => ⟨by simp, fun p hp _ => by simp [setAt, List.getElem?_append_left hp], fun m => by simp [setAt, List.getElem?_append_right]⟩
  | i :: is, Ps, R :: Rs, hnd, hlt, hlen => by
    have hnd' := List.nodup_cons.1 hnd
    have hil : i < Ps.length := hlt i (by simp)
    obtain ⟨a, b, c⟩ := setAt_spec is (Ps.set i R) Rs hnd'.2 (fun k hk => by rw [List.length_set]; exact hlt k (by simp [hk])) (by simpa using hlen)
    rw [List.length_set] at b c
    refine ⟨fun j k hj => ?_, fun p hp hn => ?_, fun m => ?_⟩
    · cases j with
      | zero =>
        simp at hj
        subst hj
        show (setAt (Ps.set i R) is Rs)[i]? = _
        rw [b i hil hnd'.1]
        simp [hil]
      | succ j =>
        show (setAt (Ps.set i R) is Rs)[k]? = _
        rw [a j k (by simpa using hj)]
        simp
    · show (setAt (Ps.set i R) is Rs)[p]? = _
      simp only [List.mem_cons, not_or] at hn
      rw [b p hp hn.2, List.getElem?_set_ne (Ne.symm hn.1)]
    · show (setAt (Ps.set i R) is Rs)[Ps.length + m]? = _
      rw [c m]
      rw [show (i :: is).length + m = (is.length + m) + 1 by simp; omega]
      simp
  | _ :: _, _, [], _, _, hlen => by simp at hlen

/-- Some objects by themselves; and what comes of the whole when they have turned. -/
theorem Sep.frame (h : Sep F0 w0 w Ps) (is : List Nat) (Rs : List Res) (hnd : is.Nodup) (hget : is.map (fun i => Ps[i]?) = Rs.map some) :
    ∃ F, Sep F w w Rs ∧ ∀ (w' : World) (Rs' : List Res), Rs.length ≤ Rs'.length → Sep F w w' Rs' → Sep F0 w0 w' (setAt Ps is Rs') := by
  obtain ⟨hmod, Fs, h1, h2⟩ := h
  have hlen : is.length = Rs.length := by simpa using congrArg List.length hget
  have hg : ∀ (j i : Nat) (R : Res), is[j]? = some i → Rs[j]? = some R → Ps[i]? = some R := fun j i R hj hR => by
    have := congrArg (fun l => l[j]?) hget
    simp only [List.getElem?_map, hj, hR, Option.map_some] at this
    simpa using this
  have hlt : ∀ i ∈ is, i < Ps.length := fun i hi => by
    obtain ⟨j, hj⟩ := List.mem_iff_getElem?.1 hi
    have hj' := (List.getElem?_eq_some_iff.1 hj).1
    have hR : Rs[j]? = some (Rs[j]'(by omega)) := List.getElem?_eq_getElem _
    exact (List.getElem?_eq_some_iff.1 (hg j i _ hj hR)).1
  have hat : ∀ (j i : Nat), is[j]? = some i → ∃ R, Rs[j]? = some R ∧ Ps[i]? = some R := fun j i hj => by
    have hj' := (List.getElem?_eq_some_iff.1 hj).1
    have hR : Rs[j]? = some (Rs[j]'(by omega)) := List.getElem?_eq_getElem _
    exact ⟨_, hR, hg j i _ hj hR⟩
  have inj : ∀ (j l i : Nat), is[j]? = some i → is[l]? = some i → j = l := fun j l i hj hl => by
    have a := List.getElem?_eq_some_iff.1 hj
    have b := List.getElem?_eq_some_iff.1 hl
    obtain ⟨a1, a2⟩ := a
    obtain ⟨b1, b2⟩ := b
    have hp := List.pairwise_iff_getElem.1 hnd
    rcases Nat.lt_trichotomy j l with h | h | h
    · exact absurd (a2.trans b2.symm) (hp j l a1 b1 h)
    · exact h
    · exact absurd (b2.trans a2.symm) (hp l j b1 a1 h)
  refine ⟨fun k => ∃ i ∈ is, Fs i k, ⟨Mod.refl _ w, fun j => Fs (is.getD j 0), fun j R hj => ?_, fun j l hjl hj hl k k1 k2 => ?_⟩, fun w' Rs' hl' hs => ?_⟩
  · have hj' := (List.getElem?_eq_some_iff.1 hj).1
    have hi : is[j]? = some (is[j]'(by omega)) := List.getElem?_eq_getElem _
    have hd : is.getD j 0 = is[j]'(by omega) := by simp [List.getD, hi]
    dsimp only
    rw [hd]
    exact ⟨(h1 _ R (hg j _ R hi hj)).1, fun k hk => .inl ⟨_, List.getElem_mem _, hk⟩⟩
  · have hi : is[j]? = some (is[j]'(by omega)) := List.getElem?_eq_getElem _
    have hi2 : is[l]? = some (is[l]'(by omega)) := List.getElem?_eq_getElem _
    have hd : is.getD j 0 = is[j]'(by omega) := by simp [List.getD, hi]
    have hd2 : is.getD l 0 = is[l]'(by omega) := by simp [List.getD, hi2]
    dsimp only at k1 k2
    rw [hd] at k1
    rw [hd2] at k2
    refine h2 _ _ (fun e => hjl (inj j l _ hi (hi2.trans (by rw [e])))) (hlt _ (List.getElem_mem _)) (hlt _ (List.getElem_mem _)) k k1 k2
  · obtain ⟨hm, Gs, g1, g2⟩ := hs
    obtain ⟨a, b, c⟩ := setAt_spec is Ps Rs' hnd hlt (by omega)
    have old : ∀ k, (∃ i ∈ is, Fs i k) → F0 k ∨ w0.heap.size ≤ k := fun k ⟨i, hi, hk⟩ => by
      obtain ⟨j, hj⟩ := List.mem_iff_getElem?.1 hi
      obtain ⟨R, _, hR⟩ := hat j i hj
      exact (h1 i R hR).2 k hk
    -- where a place of the whole lies: among the objects that turned (at j), or apart
    have cls : ∀ p R, (setAt Ps is Rs')[p]? = some R → (∃ j, (is[j]? = some p ∨ (is.length ≤ j ∧ p = Ps.length + (j - is.length))) ∧ Rs'[j]? = some R) ∨ (p ∉ is ∧ p < Ps.length ∧ Ps[p]? = some R) := fun p R hp => by
      by_cases hpl : p < Ps.length
      · by_cases hpi : p ∈ is
        · obtain ⟨j, hj⟩ := List.mem_iff_getElem?.1 hpi
          exact .inl ⟨j, .inl hj, by rw [← a j p hj]; exact hp⟩
        · exact .inr ⟨hpi, hpl, by rw [← b p hpl hpi]; exact hp⟩
      · refine .inl ⟨is.length + (p - Ps.length), .inr ⟨by omega, by omega⟩, ?_⟩
        rw [← c (p - Ps.length), show Ps.length + (p - Ps.length) = p by omega]
        exact hp
    have key : ∃ idx : Nat → Option Nat, (∀ p R, (setAt Ps is Rs')[p]? = some R → (∃ j, idx p = some j ∧ Rs'[j]? = some R) ∨ (idx p = none ∧ p ∉ is ∧ p < Ps.length ∧ Ps[p]? = some R)) ∧
        (∀ p q j, idx p = some j → idx q = some j → p = q) := by
      classical
      refine ⟨fun p => if h : ∃ j, (is[j]? = some p ∨ (is.length ≤ j ∧ p = Ps.length + (j - is.length))) then some (Classical.choose h) else none, fun p R hp => ?_, fun p q j hp hq => ?_⟩
      · rcases cls p R hp with ⟨j, hj, hR⟩ | ⟨h1, h2, h3⟩
        · have hex : ∃ j, (is[j]? = some p ∨ (is.length ≤ j ∧ p = Ps.length + (j - is.length))) := ⟨j, hj⟩
          have hc := Classical.choose_spec hex
          refine .inl ⟨Classical.choose hex, by dsimp only; rw [dif_pos hex], ?_⟩
          have e : Classical.choose hex = j := by
            generalize Classical.choose hex = j2 at hc
            rcases hc with hc | ⟨hc1, hc2⟩ <;> rcases hj with hj | ⟨hj1, hj2⟩
            · exact inj j2 j p hc hj
            · have := hlt p (List.mem_of_getElem? hc); omega
            · have := hlt p (List.mem_of_getElem? hj); omega
            · omega
          rw [e]; exact hR
        · refine .inr ⟨?_, h1, h2, h3⟩
          dsimp only
          rw [dif_neg]
          rintro ⟨j, hj | ⟨hj1, hj2⟩⟩
          · exact h1 (List.mem_of_getElem? hj)
          · omega
      · simp only at hp hq
        split at hp
        · rename_i ep
          split at hq
          · rename_i eq
            have cp := Classical.choose_spec ep
            have cq := Classical.choose_spec eq
            simp only [Option.some.injEq] at hp hq
            rw [hp] at cp
            rw [hq] at cq
            rcases cp with cp | ⟨cp1, cp2⟩ <;> rcases cq with cq | ⟨cq1, cq2⟩
            · rw [cp] at cq; exact Option.some.inj cq
            · have := (List.getElem?_eq_some_iff.1 cp).1; omega
            · have := (List.getElem?_eq_some_iff.1 cq).1; omega
            · omega
          · simp at hq
        · simp at hp
    obtain ⟨idx, i1, i2⟩ := key
    refine ⟨hmod.trans (hm.mono fun k _ hk => old k hk), fun p => match idx p with | some j => Gs j | none => Fs p, fun p R hp => ?_, fun p q hpq hp hq k k1 k2 => ?_⟩
    · rcases i1 p R hp with ⟨j, hj, hR⟩ | ⟨hn, hni, hpl, hR⟩
      · simp only [hj]
        exact ⟨(g1 j R hR).1, fun k hk => ((g1 j R hR).2 k hk).elim (old k) (fun x => .inr (Nat.le_trans hmod.size x))⟩
      · simp only [hn]
        refine ⟨R.keep (h1 p R hR).1 fun k hk => hm.block k (R.lt (h1 p R hR).1 k hk) ?_, (h1 p R hR).2⟩
        rintro ⟨i, hi, hk2⟩
        exact h2 p i (fun e => hni (e ▸ hi)) hpl (hlt i hi) k hk hk2
    · have gp : (setAt Ps is Rs')[p]? = some ((setAt Ps is Rs')[p]) := List.getElem?_eq_getElem hp
      have gq : (setAt Ps is Rs')[q]? = some ((setAt Ps is Rs')[q]) := List.getElem?_eq_getElem hq
      have far : ∀ p j R Rq, idx p = none → p ∉ is → p < Ps.length → Ps[p]? = some R → Rs'[j]? = some Rq → ∀ k, Fs p k → Gs j k → False := fun p j R Rq _ hni hpl hR hRq k k1 k2 =>
        ((g1 j Rq hRq).2 k k2).elim (fun ⟨i, hi, hk⟩ => h2 p i (fun e => hni (e ▸ hi)) hpl (hlt i hi) k k1 hk) (fun x => by
          have := R.lt (h1 p R hR).1 k k1
          omega)
      rcases i1 p _ gp with ⟨j, hj, hR⟩ | ⟨hn, hni, hpl, hR⟩ <;> rcases i1 q _ gq with ⟨l, hl, hS⟩ | ⟨hn', hni', hql, hS⟩
      · simp only [hj] at k1
        simp only [hl] at k2
        refine g2 j l (fun e => hpq (i2 p q j hj (by rw [hl, e]))) (List.getElem?_eq_some_iff.1 hR).1 (List.getElem?_eq_some_iff.1 hS).1 k k1 k2
      · simp only [hj] at k1
        simp only [hn'] at k2
        exact far q j _ _ hn' hni' hql hS hR k k2 k1
      · simp only [hn] at k1
        simp only [hl] at k2
        exact far p l _ _ hn hni hpl hR hS k k1 k2
      · simp only [hn] at k1
        simp only [hn'] at k2
        exact h2 p q hpq hpl hql k k1 k2

/-- A contract on one object by itself is one on it among others. -/
theorem Sep.lift (h : Sep F0 w0 w Ps) (i : Nat) {R R' : Res} (hi : Ps[i]? = some R) {P : Program} {f : FuncId} {args : Array Value} {e0 : Ending}
    (hc : ∀ F, Sep F w w [R] → Calls P f args w fun e w' => e = e0 ∧ Sep F w w' [R']) : Calls P f args w fun e w' => e = e0 ∧ Sep F0 w0 w' (Ps.set i R') := by
  obtain ⟨F, h1, back⟩ := h.frame [i] [R] (by simp) (by simp [hi])
  refine (hc F h1).mono fun e w' ⟨he, hs⟩ => ⟨he, ?_⟩
  have := back w' [R'] (Nat.le_refl _) hs
  simpa [setAt] using this

/-- The same objects, said otherwise. -/
theorem Sep.say (h : Sep F0 w0 w Ps) (i : Nat) {R R' : Res} (hi : Ps[i]? = some R) (hs : ∀ F, R.P w F → R'.P w F) : Sep F0 w0 w (Ps.set i R') := by
  obtain ⟨F, hP, _, back⟩ := h.at_ i hi
  exact back R' w F (hs F hP) (Mod.refl _ w) (fun k hk => .inl hk)

/-- Something is there of which an object says what it is. -/
def exR {α : Type} (f : α → Res) : Res where
  P w F := ∃ a, (f a).P w F
  keep := fun ⟨a, h⟩ hk => ⟨a, (f a).keep h hk⟩
  lt := fun ⟨a, h⟩ => (f a).lt h

theorem Sep.openEx (h : Sep F0 w0 w Ps) (i : Nat) {α : Type} {f : α → Res} (hi : Ps[i]? = some (exR f)) : ∃ a, Sep F0 w0 w (Ps.set i (f a)) := by
  obtain ⟨F, ⟨a, hP⟩, _, back⟩ := h.at_ i hi
  exact ⟨a, back (f a) w F hP (Mod.refl _ w) (fun k hk => .inl hk)⟩

theorem Sep.shutEx (h : Sep F0 w0 w Ps) (i : Nat) {α : Type} (f : α → Res) (a : α) (hi : Ps[i]? = some (f a)) : Sep F0 w0 w (Ps.set i (exR f)) := by
  obtain ⟨F, hP, _, back⟩ := h.at_ i hi
  exact back (exR f) w F ⟨a, hP⟩ (Mod.refl _ w) (fun k hk => .inl hk)

/-- Two objects as one. -/
def starR (R1 R2 : Res) : Res where
  P w F := ∃ F1 F2 : Nat → Prop, R1.P w F1 ∧ R2.P w F2 ∧ (∀ k, F1 k → F2 k → False) ∧ F = fun k => F1 k ∨ F2 k
  keep := fun ⟨F1, F2, a, b, c, d⟩ hk => ⟨F1, F2, R1.keep a fun k h => hk k (by rw [d]; exact .inl h), R2.keep b fun k h => hk k (by rw [d]; exact .inr h), c, d⟩
  lt := fun ⟨F1, F2, a, b, c, d⟩ k hk => by rw [d] at hk; exact hk.elim (R1.lt a k) (R2.lt b k)

theorem Sep.openStar (h : Sep F0 w0 w Ps) (i : Nat) {R1 R2 : Res} (hi : Ps[i]? = some (starR R1 R2)) : Sep F0 w0 w (Ps.set i R1 ++ [R2]) := by
  obtain ⟨hmod, Fs, h1, h2⟩ := h
  have hil : i < Ps.length := (List.getElem?_eq_some_iff.1 hi).1
  obtain ⟨⟨F1, F2, a, b, c, d⟩, e⟩ := h1 i _ hi
  refine ⟨hmod, fun j => if j = Ps.length then F2 else if j = i then F1 else Fs j, fun j R hj => ?_, fun j l hjl hj hl k k1 k2 => ?_⟩
  · rw [List.getElem?_append] at hj
    split at hj
    · rename_i hlt
      rw [List.length_set] at hlt
      simp only [if_neg (Nat.ne_of_lt hlt)]
      rw [List.getElem?_set] at hj
      split at hj
      · rename_i hij
        subst hij
        try rw [if_pos hil] at hj
        cases hj
        simp only [if_pos]
        exact ⟨a, fun k hk => e k (by rw [d]; exact .inl hk)⟩
      · rename_i hij
        simp only [if_neg (Ne.symm hij)]
        exact h1 j R hj
    · rename_i hge
      rw [List.length_set] at hge hj
      have : j = Ps.length := by
        rcases Nat.lt_or_ge Ps.length j with h | h
        · rw [List.getElem?_eq_none (by simp; omega)] at hj; simp at hj
        · omega
      subst this
      simp at hj
      subst hj
      simp only [if_pos]
      exact ⟨b, fun k hk => e k (by rw [d]; exact .inr hk)⟩
  · simp only [List.length_append, List.length_set, List.length_cons, List.length_nil] at hj hl
    have sub : ∀ j, j < Ps.length → ∀ k, (if j = i then F1 else Fs j) k → Fs j k := fun j _ k hk => by
      split at hk
      · rename_i e; subst e; rw [d]; exact .inl hk
      · exact hk
    have far : ∀ j, j < Ps.length → ∀ k, F2 k → (if j = i then F1 else Fs j) k → False := fun j hj k k1 k2 => by
      by_cases e : j = i
      · rw [if_pos e] at k2; exact c k k2 k1
      · rw [if_neg e] at k2
        exact h2 i j (Ne.symm e) hil hj k (by rw [d]; exact .inr k1) k2
    dsimp only at k1 k2
    by_cases e1 : j = Ps.length
    · rw [if_pos e1] at k1
      rw [if_neg (by omega)] at k2
      exact far l (by omega) k k1 k2
    · rw [if_neg e1] at k1
      by_cases e2 : l = Ps.length
      · rw [if_pos e2] at k2
        exact far j (by omega) k k2 k1
      · rw [if_neg e2] at k2
        exact h2 j l hjl (by omega) (by omega) k (sub j (by omega) k k1) (sub l (by omega) k k2)

theorem Sep.shutStar (h : Sep F0 w0 w Ps) (i j : Nat) (hij : i ≠ j) {R1 R2 : Res} (hi : Ps[i]? = some R1) (hj : Ps[j]? = some R2) (hl : j + 1 = Ps.length) : Sep F0 w0 w ((Ps.set i (starR R1 R2)).take j) := by
  obtain ⟨hmod, Fs, h1, h2⟩ := h
  have hil : i < Ps.length := (List.getElem?_eq_some_iff.1 hi).1
  refine ⟨hmod, fun l => if l = i then (fun k => Fs i k ∨ Fs j k) else Fs l, fun l R hlR => ?_, fun p q hpq hp hq k k1 k2 => ?_⟩
  · rw [List.getElem?_take] at hlR
    split at hlR
    · rename_i hlj
      rw [List.getElem?_set] at hlR
      split at hlR
      · rename_i e
        subst e
        try rw [if_pos hil] at hlR
        cases hlR
        simp only [if_pos]
        exact ⟨⟨Fs i, Fs j, (h1 i _ hi).1, (h1 j _ hj).1, fun k => h2 i j hij hil (by omega) k, rfl⟩, fun k hk => hk.elim ((h1 i _ hi).2 k) ((h1 j _ hj).2 k)⟩
      · rename_i e
        simp only [if_neg (Ne.symm e)]
        exact h1 l R hlR
    · simp at hlR
  · simp only [List.length_take, List.length_set] at hp hq
    have far : ∀ q, q ≠ i → q < j → ∀ k, (Fs i k ∨ Fs j k) → Fs q k → False := fun q hqi hqj k k1 k2 =>
      k1.elim (fun x => h2 i q (Ne.symm hqi) hil (by omega) k x k2) (fun x => h2 j q (by omega) (by omega) (by omega) k x k2)
    dsimp only at k1 k2
    by_cases e1 : p = i
    · rw [if_pos e1] at k1
      rw [if_neg (by omega)] at k2
      exact far q (by omega) (by omega) k k1 k2
    · rw [if_neg e1] at k1
      by_cases e2 : q = i
      · rw [if_pos e2] at k2
        exact far p e1 (by omega) k k2 k1
      · rw [if_neg e2] at k2
        exact h2 p q hpq (by omega) (by omega) k k1 k2

theorem Mod.of_drewN {w w' : World} {n : Nat} (h : w' = w.drewN n) : Mod No w w' := by subst h; exact ⟨rfl, rfl, rfl, Nat.le_refl _, fun _ _ _ => rfl⟩

/-- One block of cells. -/
def cellsAt (b : Nat) (c : Array Value) (T : TypeId) : Res where
  P w F := w.heap[b]? = some (.cells c T (0, 0)) ∧ F = fun k => k = b
  keep := fun ⟨h1, h2⟩ hk => ⟨by rw [hk b (by rw [h2])]; exact h1, h2⟩
  lt := fun ⟨h1, h2⟩ k hk => by rw [h2] at hk; subst hk; exact lt_of_at h1

/-- A slice of the call's own. -/
def rowAt (e : TypeId) (size : Nat) (v : Value) (n : Nat) (xs : List Value) : Res where
  P w F := w.ownsRow 0 e size v n xs ∧ F = fun k => v.ownBlock = some k
  keep := fun {w w' F} ⟨h1, h2⟩ hk => by
    refine ⟨⟨h1.1, ?_⟩, h2⟩
    rcases h1.2 with h' | ⟨g, cap, cur, rfl, hb, hg, r⟩
    · exact .inl h'
    · exact .inr ⟨g, cap, cur, rfl, hb, by rw [hk g (by rw [h2]; rfl)]; exact hg, r⟩
  lt := fun {w F} ⟨h1, h2⟩ k hk => by
    rw [h2] at hk
    rcases h1.2 with ⟨rfl, _⟩ | ⟨g, cap, cur, rfl, hb, hg, r⟩
    · simp [Value.ownBlock] at hk
    · simp only [Value.ownBlock, Option.some.injEq] at hk
      subst hk
      exact lt_of_at hg

/-- A slice of integers of the call's own. -/
abbrev intsAt (e : TypeId) (k : IntKind) (v : Value) (xs : List Int) : Res := rowAt e 1 v xs.length (xs.map (Value.int k))

theorem Sep.pushNil (h : Sep F0 w0 w Ps) (e : TypeId) (size : Nat) : Sep F0 w0 w (Ps ++ [rowAt e size (.slice none 0 0) 0 []]) :=
  h.push _ (fun k => (Value.slice none 0 0).ownBlock = some k) ⟨World.ownsRow_nil _ _ _ _, rfl⟩ (Mod.refl _ w) (by simp [Value.ownBlock])

theorem Sep.pushCells (h : Sep F0 w0 w Ps) (c : Array Value) (T : TypeId) : Sep F0 w0 (w.alloc (.cells c T)) (Ps ++ [cellsAt w.heap.size c T]) :=
  h.push _ (fun k => k = w.heap.size) ⟨heap_alloc_new w _, rfl⟩ ((Mod.refl _ w).alloc _) (fun k hk => by rw [hk]; exact Nat.le_refl _)

theorem Sep.block (h : Sep F0 w0 w Ps) (i : Nat) {b : Nat} {c : Array Value} {T : TypeId} (hi : Ps[i]? = some (cellsAt b c T)) : w.heap[b]? = some (.cells c T (0, 0)) := by
  obtain ⟨F, hP, _⟩ := h.at_ i hi
  exact hP.1

theorem Sep.cell (h : Sep F0 w0 w Ps) (i : Nat) {b : Nat} {c : Array Value} {T : TypeId} (hi : Ps[i]? = some (cellsAt b c T)) (o : Nat) {v : Value} (hv : c[o]? = some v) :
    w.cell? ⟨b, o, none⟩ = some v ∧ w.frozen? ⟨b, o, none⟩ = false := ⟨by rw [cell_at (h.block i hi)]; exact hv, frozen_at (h.block i hi) o⟩

theorem Sep.set (h : Sep F0 w0 w Ps) (i : Nat) {b : Nat} {c : Array Value} {T : TypeId} (hi : Ps[i]? = some (cellsAt b c T)) (o : Nat) (v : Value) :
    Sep F0 w0 (w.setCell ⟨b, o, none⟩ v) (Ps.set i (cellsAt b (c.setIfInBounds o v) T)) := by
  obtain ⟨F, hP, _, back⟩ := h.at_ i hi
  exact back _ _ (fun k => k = b) ⟨at_setCell hP.1 o v, rfl⟩ ((Mod.refl _ w).setCell _ _ (.inl (by rw [hP.2]))) (fun k hk => .inl (by rw [hP.2]; exact hk))

theorem Sep.row (h : Sep F0 w0 w Ps) (i : Nat) {e : TypeId} {size : Nat} {v : Value} {n : Nat} {xs : List Value} (hi : Ps[i]? = some (rowAt e size v n xs)) : w.ownsRow 0 e size v n xs := by
  obtain ⟨F, hP, _⟩ := h.at_ i hi
  exact hP.1

/-- A slice's form. -/
theorem Sep.form (h : Sep F0 w0 w Ps) (i : Nat) {e : TypeId} {size : Nat} {v : Value} {n : Nat} {xs : List Value} (hi : Ps[i]? = some (rowAt e size v n xs)) : ∃ sa cap, v = .slice sa n cap := by
  obtain ⟨rfl, hz⟩ | ⟨g, cap, rfl⟩ := Joins.ownsRow_forms (h.row i hi)
  · exact ⟨none, 0, by rw [hz]⟩
  · exact ⟨_, _, rfl⟩

/-- A cell of a slice. -/
theorem Sep.item (h : Sep F0 w0 w Ps) (i : Nat) {e : TypeId} {size : Nat} {sa : Option Addr} {n cap : Nat} {xs : List Value} (hi : Ps[i]? = some (rowAt e size (.slice sa n cap) n xs)) {o : Nat} {x : Value} (hx : xs[o]? = some x) :
    ∃ g, sa = some ⟨g, 0, none⟩ ∧ w.cell? ⟨g, o, none⟩ = some x ∧ ∀ p, w.frozen? ⟨g, p, none⟩ = false := by
  have hr := h.row i hi
  have ho := (List.getElem?_eq_some_iff.1 hx).1
  have hn : 0 < n := by
    rcases Nat.eq_zero_or_pos n with h0 | h0
    · subst h0
      have := hr.1
      omega
    · exact h0
  obtain ⟨g, cap', hv⟩ := Joins.ownsRow_form hr hn
  simp only [Value.slice.injEq] at hv
  obtain ⟨rfl, _, rfl⟩ := hv
  exact ⟨g, rfl, by rw [hr.cellAt _ (by rw [← hr.1]; exact ho)]; exact hx, fun p => hr.frozenAt p⟩

/-- A store into a slice. -/
theorem Sep.setItem (h : Sep F0 w0 w Ps) (i : Nat) {e : TypeId} {size : Nat} {g n cap : Nat} {xs : List Value} (hi : Ps[i]? = some (rowAt e size (.slice (some ⟨g, 0, none⟩) n cap) n xs)) (o : Nat) (v : Value) :
    Sep F0 w0 (w.setCell ⟨g, o, none⟩ v) (Ps.set i (rowAt e size (.slice (some ⟨g, 0, none⟩) n cap) n (xs.set o v))) := by
  obtain ⟨F, hP, _, back⟩ := h.at_ i hi
  exact back _ _ F ⟨(hP.1.stored o v).1, hP.2⟩ ((Mod.refl _ w).setCell _ _ (.inl (by rw [hP.2]; rfl))) (fun k hk => .inl hk)

/-- An empty slice that is not nil. -/
theorem Sep.pushEmpty (h : Sep F0 w0 w Ps) (e : TypeId) (size : Nat) : Sep F0 w0 (w.alloc (.cells #[] e)) (Ps ++ [rowAt e size (.slice (some ⟨w.heap.size, 0, none⟩) 0 0) 0 []]) :=
  h.push _ (fun k => (Value.slice (some ⟨w.heap.size, 0, none⟩) 0 0).ownBlock = some k) ⟨World.ownsRow_lit (base := 0) w #[] 0 (Nat.zero_le _) (Nat.zero_le _) (by simp), rfl⟩ ((Mod.refl _ w).alloc _) (fun k hk => by
    simp only [Value.ownBlock, Option.some.injEq] at hk
    omega)

section
variable {P : Program}

/-- append of one element that was laid in a block of its own just before. -/
theorem wpList_append_sep {ops : Array Oper} {rest : List Oper} {o : Oper} {a : Act} {Q : Exit → Act → World → Prop} (h : Sep F0 w0 w Ps) (j : Nat) {e size : Nat} {v : Value} {n : Nat} {xs : List Value}
    (hj : Ps[j]? = some (rowAt e size v n xs)) (hgd : o.guard = none) (s x : Operand) (t : TypeId) (ho : o.op = .call { callee := .builtin .append, args := #[s, x], argTypes := #[t, t] })
    {i : TypeInfo} {z : Value} {bytes : Nat} (ht : P.underlying t = some (.slice e)) (hi : P.info? e = some i) (hz : i.zero = some z)
    (hsize : i.size = size) (hby : i.bytes = bytes) (hzs : z.cells.size = size) (hsz : 0 < size)
    (hs : a.eval s = v) (news : List Value) (m : Nat) (hx : a.eval x = .slice (some ⟨m, 0, none⟩) 1 1) (hm : m = w.heap.size) (hl : news.length = size) (h1 : ∀ u ∈ news, u.oneCell' = true) (T : TypeId)
    (h63 : n + 1 ≤ maxLen) (hbytes : (n + 1) * bytes ≤ 140737488355328)
    (k : ∀ g cap w', Sep F0 w0 w' (Ps.set j (rowAt e size (.slice (some ⟨g, 0, none⟩) (n + 1) cap) (n + 1) (xs ++ news))) →
      wpList P ops Q rest (a.put o.dst (.slice (some ⟨g, 0, none⟩) (n + 1) cap)) w') : wpList P ops Q (o :: rest) a (w.alloc (.cells news.toArray T)) := by
  obtain ⟨F, hP, _, back⟩ := h.at_ j hj
  refine wpList_append_one w hgd s x t ho e i z size bytes ht hi hz hsize hby hzs hsz v n xs hs hP.1 news (hm ▸ hx) hl h1 T h63 hbytes fun g cap w' hr hmod hg => k g cap w' ?_
  refine back _ _ (fun k => k = g) ⟨hr, by funext k; simp [Value.ownBlock, eq_comm]⟩ (hmod.mono fun k _ hk => by rw [hP.2]; exact hk) (fun k hk => ?_)
  subst hk
  rw [hP.2]
  exact hg

theorem wpList_append_sep1 {ops : Array Oper} {rest : List Oper} {o : Oper} {a : Act} {Q : Exit → Act → World → Prop} (h : Sep F0 w0 w Ps) (j : Nat) {e : Nat} {v : Value} {n : Nat} {xs : List Value}
    (hj : Ps[j]? = some (rowAt e 1 v n xs)) (hgd : o.guard = none) (s x : Operand) (t : TypeId) (ho : o.op = .call { callee := .builtin .append, args := #[s, x], argTypes := #[t, t] })
    {i : TypeInfo} {z : Value} {bytes : Nat} (ht : P.underlying t = some (.slice e)) (hi : P.info? e = some i) (hz : i.zero = some z)
    (hsize : i.size = 1) (hby : i.bytes = bytes) (hzs : z.cells.size = 1)
    (hs : a.eval s = v) (u : Value) (m : Nat) (hx : a.eval x = .slice (some ⟨m, 0, none⟩) 1 1) (hm : m = w.heap.size) (h1 : u.oneCell' = true) (T : TypeId)
    (h63 : n + 1 ≤ maxLen) (hbytes : (n + 1) * bytes ≤ 140737488355328)
    (k : ∀ g cap w', Sep F0 w0 w' (Ps.set j (rowAt e 1 (.slice (some ⟨g, 0, none⟩) (n + 1) cap) (n + 1) (xs ++ [u]))) →
      wpList P ops Q rest (a.put o.dst (.slice (some ⟨g, 0, none⟩) (n + 1) cap)) w') : wpList P ops Q (o :: rest) a (w.alloc (.cells #[u] T)) :=
  wpList_append_sep h j hj hgd s x t ho ht hi hz hsize hby hzs (by decide) hs [u] m hx hm rfl (by simp [h1]) T h63 hbytes k
/-- What is appended: nothing, or m elements whose cells lie behind an address. -/
def SrcOf (w : World) (size : Nat) (x : Value) (m : Nat) (news : List Value) : Prop :=
  (x = .slice none 0 0 ∧ m = 0 ∧ news = []) ∨ ∃ a c, x = .slice (some a) m c ∧ news.length = m * size ∧ (∀ j u, news[j]? = some u → w.cell? (a.add j) = some u) ∧ (∀ u ∈ news, u.oneCell' = true)

theorem addr_add (g o j : Nat) : (⟨g, o, none⟩ : Addr).add j = ⟨g, o + j, none⟩ := by unfold Addr.add; split <;> simp_all

/-- A whole slice, or some of its elements. -/
theorem srcOf_row {w : World} {e size : Nat} {sa : Option Addr} {n cap : Nat} {xs : List Value} (hr : w.ownsRow 0 e size (.slice sa n cap) n xs) (h1 : ∀ u ∈ xs, u.oneCell' = true) : SrcOf w size (.slice sa n cap) n xs := by
  rcases hr.2 with ⟨hv, hn⟩ | ⟨g, cap', cur, hv, _⟩
  · simp only [Value.slice.injEq] at hv
    obtain ⟨rfl, rfl, rfl⟩ := hv
    exact .inl ⟨rfl, rfl, List.eq_nil_of_length_eq_zero (by simpa using hr.1)⟩
  · simp only [Value.slice.injEq] at hv
    obtain ⟨rfl, _, rfl⟩ := hv
    exact .inr ⟨_, _, rfl, hr.1, hr.cells rfl, h1⟩

theorem srcOf_part {w : World} {e size : Nat} {g n cap : Nat} {xs : List Value} (hr : w.ownsRow 0 e size (.slice (some ⟨g, 0, none⟩) n cap) n xs) (h1 : ∀ u ∈ xs, u.oneCell' = true) (k m c : Nat) (hkm : k + m ≤ n) :
    SrcOf w size (.slice (some ⟨g, k * size, none⟩) m c) m ((xs.drop (k * size)).take (m * size)) := by
  have hl : k * size + m * size ≤ xs.length := by rw [hr.1, ← Nat.add_mul]; exact Nat.mul_le_mul_right _ hkm
  refine .inr ⟨_, _, rfl, by rw [List.length_take, List.length_drop]; omega, fun j u hj => ?_, fun u hu => h1 u (List.mem_of_mem_drop (List.mem_of_mem_take hu))⟩
  rw [List.getElem?_take] at hj
  split at hj
  · rw [List.getElem?_drop] at hj
    rw [addr_add, hr.cellAt _ (by rw [← hr.1]; exact (List.getElem?_eq_some_iff.1 hj).1)]
    exact hj
  · simp at hj

/-- append of all of a slice. -/
theorem wpList_append_src {ops : Array Oper} {rest : List Oper} {o : Oper} {a : Act} {Q : Exit → Act → World → Prop} (h : Sep F0 w0 w Ps) (j : Nat) {e size : Nat} {v : Value} {n : Nat} {xs : List Value}
    (hj : Ps[j]? = some (rowAt e size v n xs)) (hgd : o.guard = none) (s x : Operand) (t : TypeId) (ho : o.op = .call { callee := .builtin .append, args := #[s, x], argTypes := #[t, t] })
    {i : TypeInfo} {z : Value} {bytes : Nat} (ht : P.underlying t = some (.slice e)) (hi : P.info? e = some i) (hz : i.zero = some z)
    (hsize : i.size = size) (hby : i.bytes = bytes) (hzs : z.cells.size = size) (hsz : 0 < size)
    (hs : a.eval s = v) (src : Value) {m : Nat} {news : List Value} (hx : a.eval x = src) (hsrc : SrcOf w size src m news)
    (h63 : n + m ≤ maxLen) (hbytes : (n + m) * bytes ≤ 140737488355328)
    (k : ∀ sa cap w', Sep F0 w0 w' (Ps.set j (rowAt e size (.slice sa (n + m) cap) (n + m) (xs ++ news))) →
      wpList P ops Q rest (a.put o.dst (.slice sa (n + m) cap)) w') : wpList P ops Q (o :: rest) a w := by
  obtain ⟨F, hP, _, back⟩ := h.at_ j hj
  have key : ∃ v' w', (Builtin.append_ #[t, t] o.type #[v, src]).run P w = .ok v' w' ∧ w'.ownsRow 0 e size v' (n + m) (xs ++ news) ∧ w.grownBy w' v.ownBlock ∧ (v'.ownBlock = v.ownBlock ∨ v'.ownBlock = some w.heap.size) := by
    rcases hsrc with ⟨rfl, rfl, rfl⟩ | ⟨ad, c, rfl, hl, hnews, h1⟩
    · exact ⟨v, w, run_append_owned_none (P := P) w 0 t o.type e i size ht hi v n xs hP.1, by simpa using hP.1, ⟨rfl, rfl, rfl, Nat.le_refl _, fun _ _ _ => rfl⟩, .inl rfl⟩
    · obtain ⟨v', w', hr, h2, h3, _, h5⟩ := run_append_own_at (P := P) w 0 t o.type e i z size bytes ht hi hz hsize hby hzs hsz v n xs hP.1 ad m c news hl hnews h1 h63 hbytes (Nat.zero_le _)
      exact ⟨v', w', hr, h2, h3, h5⟩
  obtain ⟨v', w', hr, h2, h3, h5⟩ := key
  have form : ∃ sa cap, v' = .slice sa (n + m) cap := by
    obtain ⟨rfl, hz⟩ | ⟨g, cap, rfl⟩ := Joins.ownsRow_forms h2
    · exact ⟨none, 0, by rw [hz]⟩
    · exact ⟨_, _, rfl⟩
  obtain ⟨sa, cap, rfl⟩ := form
  have hS := back (rowAt e size (.slice sa (n + m) cap) (n + m) (xs ++ news)) w' _ ⟨h2, rfl⟩ ((Mod.refl F w).grown h3 (fun k hk => .inl (by rw [hP.2]; exact hk))) (fun k hk => by
    rw [hP.2]
    exact h5.elim (fun e => .inl (by rw [← e]; exact hk)) (fun e => .inr (by rw [e] at hk; simp at hk; omega)))
  refine wpList_plain hgd fun K hK => ?_
  unfold Oper.wp execOp
  simp only [ho, resolve, invoke, builtin, Sem.run_bind, Sem.run_pure, Result.andThen_ok, List.map_toArray, List.map_cons, List.map_nil, hs, hx, hr]
  exact hK _ _ (k sa cap w' hS)
/-- The same at a step of a region that draws its order. -/
theorem step_append_src {ops : Array Oper} {o : Oper} {a : Act} {K : Act → World → Prop} {Q : Exit → Act → World → Prop} {E : Prop} (h : Sep F0 w0 w Ps) (j : Nat) {e size : Nat} {v : Value} {n : Nat} {xs : List Value}
    (hj : Ps[j]? = some (rowAt e size v n xs)) (hgd : o.guard = none) (s x : Operand) (t : TypeId) (ho : o.op = .call { callee := .builtin .append, args := #[s, x], argTypes := #[t, t] })
    {i : TypeInfo} {z : Value} {bytes : Nat} (ht : P.underlying t = some (.slice e)) (hi : P.info? e = some i) (hz : i.zero = some z)
    (hsize : i.size = size) (hby : i.bytes = bytes) (hzs : z.cells.size = size) (hsz : 0 < size)
    (hs : a.eval s = v) (src : Value) {m : Nat} {news : List Value} (hx : a.eval x = src) (hsrc : SrcOf w size src m news)
    (h63 : n + m ≤ maxLen) (hbytes : (n + m) * bytes ≤ 140737488355328)
    (k : ∀ sa cap w', Sep F0 w0 w' (Ps.set j (rowAt e size (.slice sa (n + m) cap) (n + m) (xs ++ news))) → K (a.put o.dst (.slice sa (n + m) cap)) w') :
    if Region.wanted o (yielded ops a.tmps) = true then Oper.wp P o a w K Q else E := by
  have hw : Region.wanted o (yielded ops a.tmps) = true := by simp [Region.wanted, hgd]
  rw [if_pos hw]
  obtain ⟨F, hP, _, back⟩ := h.at_ j hj
  have key : ∃ v' w', (Builtin.append_ #[t, t] o.type #[v, src]).run P w = .ok v' w' ∧ w'.ownsRow 0 e size v' (n + m) (xs ++ news) ∧ w.grownBy w' v.ownBlock ∧ (v'.ownBlock = v.ownBlock ∨ v'.ownBlock = some w.heap.size) := by
    rcases hsrc with ⟨rfl, rfl, rfl⟩ | ⟨ad, c, rfl, hl, hnews, h1⟩
    · exact ⟨v, w, run_append_owned_none (P := P) w 0 t o.type e i size ht hi v n xs hP.1, by simpa using hP.1, ⟨rfl, rfl, rfl, Nat.le_refl _, fun _ _ _ => rfl⟩, .inl rfl⟩
    · obtain ⟨v', w', hr, h2, h3, _, h5⟩ := run_append_own_at (P := P) w 0 t o.type e i z size bytes ht hi hz hsize hby hzs hsz v n xs hP.1 ad m c news hl hnews h1 h63 hbytes (Nat.zero_le _)
      exact ⟨v', w', hr, h2, h3, h5⟩
  obtain ⟨v', w', hr, h2, h3, h5⟩ := key
  have form : ∃ sa cap, v' = .slice sa (n + m) cap := by
    obtain ⟨rfl, hz⟩ | ⟨g, cap, rfl⟩ := Joins.ownsRow_forms h2
    · exact ⟨none, 0, by rw [hz]⟩
    · exact ⟨_, _, rfl⟩
  obtain ⟨sa, cap, rfl⟩ := form
  have hS := back (rowAt e size (.slice sa (n + m) cap) (n + m) (xs ++ news)) w' _ ⟨h2, rfl⟩ ((Mod.refl F w).grown h3 (fun k hk => .inl (by rw [hP.2]; exact hk))) (fun k hk => by
    rw [hP.2]
    exact h5.elim (fun e => .inl (by rw [← e]; exact hk)) (fun e => .inr (by rw [e] at hk; simp at hk; omega)))
  unfold Oper.wp execOp
  simp only [ho, resolve, invoke, builtin, Sem.run_bind, Sem.run_pure, Result.andThen_ok, List.map_toArray, List.map_cons, List.map_nil, hs, hx, hr]
  exact k sa cap w' hS

/-- What is appended lies in a block of its own. -/
theorem srcOf_block {w : World} {b size : Nat} {c : Array Value} {T : TypeId} {fz : Nat × Nat} (hb : w.heap[b]? = some (.cells c T fz)) (hc : c.size = size) (h1 : ∀ u ∈ c.toList, u.oneCell' = true) (m : Nat) : SrcOf w size (.slice (some ⟨b, 0, none⟩) 1 m) 1 c.toList := by
  refine .inr ⟨_, _, rfl, by simpa using hc, fun j u hj => ?_, h1⟩
  rw [addr_add, Nat.zero_add, cell_at hb]
  simpa using hj
end
end Go.Proofs.YtfmkiioahnphbaaDoor

namespace Go.Proofs.YtfmkiioahnphbaaDoor
open Go Go.RowKit
open Go.Maps (Keyed Tidy)

/-- How a pointer to a block's head reads. -/
def ptrElem : Value → Option (DataW Unit × List MemPlace)
  | .pointer (some ⟨b, 0, none⟩) => some (.lit (.int .i64 b), [])
  | .pointer none => some (.nil, [])
  | _ => none

theorem ptrElem_some (b : Nat) : ptrElem (.pointer (some ⟨b, 0, none⟩)) = some (.lit (.int .i64 b), []) := rfl
theorem ptrElem_inv {v : Value} {b : Nat} {ps : List MemPlace} (h : ptrElem v = some (.lit (.int .i64 b), ps)) : v = .pointer (some ⟨b, 0, none⟩) := by
  unfold ptrElem at h
  split at h
  · simp at h
    have : _ = b := Int.ofNat.inj h.1
    rw [this]
  · simp at h
  · simp at h
theorem ptrElem_nil {v : Value} {ps : List MemPlace} (h : ptrElem v = some (.nil, ps)) : v = .pointer none := by
  unfold ptrElem at h
  split at h
  · simp at h
  · rfl
  · simp at h

def keyL (k : Nat) : Lit := .int .i64 (k : Int)
theorem keyL_inj {k j : Nat} (h : keyL k = keyL j) : k = j := by simp [keyL] at h; omega
theorem keyL_same (k : Nat) (n : Int) : (keyL k).sameKey (.int .i64 n) = decide ((k : Int) = n) := by simp [keyL, Lit.sameKey]
def entL (p : Nat → Nat) (k : Nat) : Lit × DataW Unit := (keyL k, .lit (.int .i64 (p k)))

/-- A map's datum: the keys L, each with its block. -/
def MapIs (D : DataW Unit) (L : List Nat) (p : Nat → Nat) : Prop := ∃ es, D = .map es ∧ es.Perm (L.map (entL p))

theorem MapIs.nil (p : Nat → Nat) : MapIs (.map []) [] p := ⟨[], rfl, List.Perm.refl _⟩
theorem MapIs.perm {D : DataW Unit} {L L' : List Nat} {p : Nat → Nat} (h : MapIs D L p) (hp : L.Perm L') : MapIs D L' p := by
  obtain ⟨es, rfl, h⟩ := h
  exact ⟨es, rfl, h.trans (hp.map _)⟩
theorem MapIs.size {D : DataW Unit} {L : List Nat} {p : Nat → Nat} (h : MapIs D L p) : Maps.size D = L.length := by
  obtain ⟨es, rfl, h⟩ := h
  simpa [Maps.size] using h.length_eq
theorem MapIs.keys {D : DataW Unit} {L : List Nat} {p : Nat → Nat} (h : MapIs D L p) : (Go.intKeys D).Perm (L.map fun k : Nat => (k : Int)) := by
  obtain ⟨es, rfl, h⟩ := h
  have := h.map (fun q : Lit × DataW Unit => Go.intOf q.1)
  rw [List.map_map] at this
  exact this

theorem MapIs.hit {D : DataW Unit} {L : List Nat} {p : Nat → Nat} (h : MapIs D L p) {k : Nat} (hk : k ∈ L) (z : DataW Unit) : D.atKey (keyL k) z = .lit (.int .i64 (p k)) := by
  obtain ⟨es, rfl, h⟩ := h
  have hm : entL p k ∈ es := h.mem_iff.2 (List.mem_map_of_mem hk)
  simp only [DataW.atKey]
  cases hf : es.find? (fun q => q.1.sameKey (keyL k)) with
  | none =>
    have := List.find?_eq_none.1 hf _ hm
    simp [entL, keyL, Lit.sameKey] at this
  | some q =>
    have h1 := List.find?_some hf
    obtain ⟨j, hj, hq⟩ := List.mem_map.1 (h.mem_iff.1 (List.mem_of_find?_eq_some hf))
    subst hq
    simp [entL, keyL, Lit.sameKey] at h1
    obtain rfl : j = k := by omega
    rfl

theorem MapIs.miss {D : DataW Unit} {L : List Nat} {p : Nat → Nat} (h : MapIs D L p) {n : Int} (hn : ∀ k ∈ L, (k : Int) ≠ n) (z : DataW Unit) : D.atKey (.int .i64 n) z = z := by
  obtain ⟨es, rfl, h⟩ := h
  simp only [DataW.atKey]
  have : es.find? (fun q => q.1.sameKey (.int .i64 n)) = none := by
    refine List.find?_eq_none.2 fun q hq => ?_
    obtain ⟨j, hj, rfl⟩ := List.mem_map.1 (h.mem_iff.1 hq)
    simp only [entL, keyL_same]
    simpa using hn j hj
  rw [this]

theorem filter_all {α : Type} {f : α → Bool} {l : List α} (h : ∀ x ∈ l, f x = true) : l.filter f = l := List.filter_eq_self.2 h

theorem MapIs.put {D : DataW Unit} {L : List Nat} {p : Nat → Nat} (h : MapIs D L p) {k b : Nat} (hk : k ∉ L) : MapIs (D.put (keyL k) (.lit (.int .i64 b))) (k :: L) (fun j => if j = k then b else p j) := by
  obtain ⟨es, rfl, h⟩ := h
  refine ⟨_, rfl, (WideShapes.insert_perm _ _).trans ?_⟩
  have hf : es.filter (fun q => !q.1.sameKey (keyL k)) = es := filter_all fun q hq => by
    obtain ⟨j, hj, rfl⟩ := List.mem_map.1 (h.mem_iff.1 hq)
    have : (j : Int) ≠ (k : Int) := fun e => hk (by have : j = k := by omega
                                                    rw [← this]; exact hj)
    simp only [entL]
    rw [show keyL k = Lit.int .i64 (k : Int) from rfl, keyL_same]
    simpa using this
  rw [hf, List.map_cons]
  have e1 : entL (fun j => if j = k then b else p j) k = (keyL k, .lit (.int .i64 b)) := by simp [entL]
  rw [e1]
  refine List.Perm.cons _ (h.trans ?_)
  have e2 : L.map (entL p) = L.map (entL fun j => if j = k then b else p j) := List.map_congr_left fun j hj => by
    have : j ≠ k := fun e => hk (e ▸ hj)
    simp [entL, this]
  rw [e2]

theorem MapIs.del {D : DataW Unit} {L : List Nat} {p : Nat → Nat} (h : MapIs D L p) (k : Nat) : MapIs (D.del (keyL k)) (L.filter (fun j => j != k)) p := by
  obtain ⟨es, rfl, h⟩ := h
  refine ⟨_, rfl, ?_⟩
  have h1 := h.filter (fun q : Lit × DataW Unit => !q.1.sameKey (keyL k))
  refine h1.trans ?_
  rw [List.filter_map]
  have e : L.filter ((fun q : Lit × DataW Unit => !q.1.sameKey (keyL k)) ∘ entL p) = L.filter (fun j => j != k) := by
    apply List.filter_congr
    intro j _
    simp only [Function.comp, entL]
    rw [show keyL k = Lit.int .i64 (k : Int) from rfl, keyL_same]
    by_cases hjk : j = k
    · subst hjk; simp
    · have : (j : Int) ≠ (k : Int) := by omega
      simp [hjk, this]
  rw [e]

/-- As tight a bound as there is. -/
theorem ownsMap_tight {P : Program} {w : World} {K b n : Nat} {D : DataW Unit} (h : w.ownsMap P K ptrElem b n D) : w.ownsMap P K ptrElem b (Maps.size D) D := by
  obtain ⟨es, clock, hb, F, _, rfl⟩ := h
  refine ⟨es, clock, hb, F, ?_, rfl⟩
  simp [Maps.size, length_sorted]

theorem ownsMap_heap {P : Program} {w w' : World} {K b n : Nat} {D : DataW Unit} (h : w.ownsMap P K ptrElem b n D) (hb : w'.heap[b]? = w.heap[b]?) : w'.ownsMap P K ptrElem b n D := by
  obtain ⟨es, clock, hb', r⟩ := h
  exact ⟨es, clock, hb.trans hb', r⟩

/-- A map in block b. -/
def mapAt (P : Program) (K b : Nat) (L : List Nat) (p : Nat → Nat) : Res where
  P w F := (∃ D, w.ownsMap P K ptrElem b L.length D ∧ MapIs D L p) ∧ F = fun k => k = b
  keep := fun ⟨⟨D, h, hi⟩, hF⟩ hk => ⟨⟨D, ownsMap_heap h (hk b (by rw [hF])), hi⟩, hF⟩
  lt := fun ⟨⟨D, h, hi⟩, hF⟩ k hk => by rw [hF] at hk; subst hk; exact h.lt

theorem wf_i64_of {n : Int} (h0 : -9223372036854775808 ≤ n) (h1 : n ≤ 9223372036854775807) : (Lit.int .i64 n).wf = true := WalkArith.wf_i64 ⟨h0, h1⟩
end Go.Proofs.YtfmkiioahnphbaaDoor

namespace Go.Proofs.YtfmkiioahnphbaaDoor

/-- An arena: its quota, its pages' numbers, rising, its words (0 where no page is). -/
structure Slb where
  quota : Int
  pg : List Nat
  wd : Nat → Int

namespace Slb

structure Ok (S : Slb) : Prop where
  q0 : 0 ≤ S.quota
  q1 : S.quota ≤ 262144
  fit : 64 * (S.pg.length : Int) ≤ S.quota
  sorted : S.pg.Pairwise (· < ·)
  small : ∀ k ∈ S.pg, k < 33554432
  words : ∀ a, 0 ≤ S.wd a ∧ S.wd a < 18446744073709551616
  zero : ∀ a, a / 64 ∉ S.pg → S.wd a = 0

/-- Is a page granted? -/
def has (S : Slb) (n : Int) : Bool := decide (0 ≤ n) && decide (n.toNat ∈ S.pg)

theorem has_iff {S : Slb} {n : Int} : S.has n = true ↔ 0 ≤ n ∧ n.toNat ∈ S.pg := by simp [has]
theorem has_nat {S : Slb} {n : Nat} : S.has n = true ↔ n ∈ S.pg := by simp [has]

/-- What stands against a word. -/
def err (S : Slb) (a : Int) : Int := if a < 0 ∨ 67108863 < a then 2 else if S.has (a / 64) then 0 else 5
def read (S : Slb) (a : Int) : Int × Int := if S.err a = 0 then (S.wd a.toNat, 0) else (0, S.err a)
def write (S : Slb) (a v : Int) : Int × Slb := if S.err a = 0 then (0, { S with wd := fun x => if x = a.toNat then v else S.wd x }) else (S.err a, S)

/-- Pages more, from one on. -/
def more (pg : List Nat) (f n : Nat) : List Nat := pg.filter (· < f) ++ (List.range n).map (f + ·) ++ pg.filter (f + n ≤ ·)
/-- Pages less. -/
def less (pg : List Nat) (f n : Nat) : List Nat := pg.filter fun k => decide (k < f) || decide (f + n ≤ k)

def claim (S : Slb) (n : Int) : Int × Slb :=
  if n < 0 ∨ 1048575 < n then (2, S) else if S.has n then (6, S) else if S.quota < (S.pg.length + 1) * 64 then (3, S) else (0, { S with pg := more S.pg n.toNat 1 })

def release (S : Slb) (f n : Int) : Int × Slb :=
  if n < 1 ∨ 4096 < n ∨ f < 0 ∨ 1048576 - n < f then (2, S)
  else if (List.range n.toNat).all (fun k => S.has (f + k)) then (0, { S with pg := less S.pg f.toNat n.toNat, wd := fun a => if f.toNat ≤ a / 64 ∧ a / 64 < f.toNat + n.toNat then 0 else S.wd a })
  else (5, S)

/-- Are n pages from one on free? -/
def freeB (pg : List Nat) (f n : Nat) : Bool := pg.all fun k => decide (k < f) || decide (f + n ≤ k)
/-- The least page from which on n are free. -/
def least (pg : List Nat) (n : Nat) : Nat := ((List.range (n * pg.length + 1)).find? fun f => freeB pg f n).getD 0

def grant (S : Slb) (n : Int) : Int × Int × Slb :=
  if n < 1 ∨ 4096 < n then (0, 2, S) else if S.quota < (S.pg.length + n) * 64 then (0, 3, S)
  else (least S.pg n.toNat, 0, { S with pg := more S.pg (least S.pg n.toNat) n.toNat })

def moveBad (to f n : Int) : Bool := decide (n < 0 ∨ 262144 < n ∨ to < 0 ∨ f < 0 ∨ 67108863 - max (n - 1) 0 < max to f)
def move (S : Slb) (to f n : Int) : Int × Slb :=
  if moveBad to f n then (2, S)
  else if (List.range n.toNat).all (fun k => S.has ((f + k) / 64) && S.has ((to + k) / 64)) then
    (0, { S with wd := fun a => if to.toNat ≤ a ∧ a < to.toNat + n.toNat then S.wd (f.toNat + (a - to.toNat)) else S.wd a })
  else (5, S)

theorem freeB_iff {pg : List Nat} {f n : Nat} : freeB pg f n = true ↔ ∀ k ∈ pg, k < f ∨ f + n ≤ k := by simp [freeB]

theorem free_at (pg : List Nat) (n : Nat) (hn : 1 ≤ n) : ∀ (m f : Nat), (pg.filter (fun k => decide (f ≤ k))).length ≤ m → ∃ g, f ≤ g ∧ g ≤ f + n * m ∧ freeB pg g n = true := by
  intro m
  induction m with
  | zero =>
    intro f h
    have h0 : pg.filter (fun k => decide (f ≤ k)) = [] := List.eq_nil_of_length_eq_zero (by omega)
    refine ⟨f, Nat.le_refl _, by omega, freeB_iff.2 fun k hk => ?_⟩
    have := List.filter_eq_nil_iff.1 h0 k hk
    simp at this
    exact .inl this
  | succ m ih =>
    intro f h
    cases hf : freeB pg f n with
    | true => exact ⟨f, Nat.le_refl _, by omega, hf⟩
    | false =>
      have hex : ∃ k ∈ pg, f ≤ k ∧ k < f + n := by
        refine Classical.byContradiction fun hne => ?_
        have : freeB pg f n = true := freeB_iff.2 fun k hk => by
          rcases Nat.lt_or_ge k f with h1 | h1
          · exact .inl h1
          · rcases Nat.lt_or_ge k (f + n) with h2 | h2
            · exact absurd ⟨k, hk, h1, h2⟩ hne
            · exact .inr h2
        rw [hf] at this
        cases this
      obtain ⟨k, hk, h1, h2⟩ := hex
      have hlt : (pg.filter (fun j => decide (k + 1 ≤ j))).length ≤ m := by
        have hsub : (pg.filter (fun j => decide (k + 1 ≤ j))) = (pg.filter (fun j => decide (f ≤ j))).filter (fun j => decide (k + 1 ≤ j)) := by
          rw [List.filter_filter]
          apply List.filter_congr
          intro j _
          by_cases hj : k + 1 ≤ j
          · have : f ≤ j := by omega
            simp [hj, this]
          · simp [hj]
        rw [hsub]
        have hmem : k ∈ pg.filter (fun j => decide (f ≤ j)) := List.mem_filter.2 ⟨hk, by simpa using h1⟩
        have : ((pg.filter (fun j => decide (f ≤ j))).filter (fun j => decide (k + 1 ≤ j))).length < (pg.filter (fun j => decide (f ≤ j))).length := by
          refine List.length_filter_lt_length_iff_exists.2 ⟨k, hmem, by simp⟩
        omega
      obtain ⟨g, g1, g2, g3⟩ := ih (k + 1) hlt
      refine ⟨g, by omega, ?_, g3⟩
      have e : n * (m + 1) = n * m + n := Nat.mul_succ n m
      omega

theorem exists_free (pg : List Nat) (n : Nat) (hn : 1 ≤ n) : ∃ g, g ≤ n * pg.length ∧ freeB pg g n = true := by
  obtain ⟨g, _, h2, h3⟩ := free_at pg n hn pg.length 0 (List.length_filter_le _ _)
  exact ⟨g, by omega, h3⟩

theorem least_spec (pg : List Nat) (n : Nat) (hn : 1 ≤ n) : least pg n ≤ n * pg.length ∧ freeB pg (least pg n) n = true ∧ ∀ f, f < least pg n → freeB pg f n = false := by
  obtain ⟨g, g1, g2⟩ := exists_free pg n hn
  unfold least
  cases hf : (List.range (n * pg.length + 1)).find? fun f => freeB pg f n with
  | none =>
    have := List.find?_eq_none.1 hf g (List.mem_range.2 (by omega))
    simp [g2] at this
  | some x =>
    have h1 := List.find?_some hf
    have h2 := List.mem_range.1 (List.mem_of_find?_eq_some hf)
    refine ⟨by simp; omega, by simpa using h1, fun f hlt => ?_⟩
    simp only [Option.getD_some] at hlt
    have h3 := List.find?_eq_some_iff_getElem.1 hf
    obtain ⟨_, i, hi, hx, hbef⟩ := h3
    simp only [List.getElem_range] at hx
    have := hbef f (by omega)
    simpa using this

theorem least_eq {pg : List Nat} {n f : Nat} (hn : 1 ≤ n) (h1 : freeB pg f n = true) (h2 : ∀ g, g < f → freeB pg g n = false) : least pg n = f := by
  obtain ⟨_, l1, l2⟩ := least_spec pg n hn
  rcases Nat.lt_trichotomy (least pg n) f with h | h | h
  · rw [h2 _ h] at l1; cases l1
  · exact h
  · rw [l2 _ h] at h1; cases h1

theorem mem_more {pg : List Nat} {f n k : Nat} (hf : freeB pg f n = true) : k ∈ more pg f n ↔ k ∈ pg ∨ f ≤ k ∧ k < f + n := by
  unfold more
  simp only [List.mem_append, List.mem_filter, List.mem_map, List.mem_range, decide_eq_true_eq]
  constructor
  · rintro ((h | ⟨j, hj, rfl⟩) | h)
    · exact .inl h.1
    · exact .inr ⟨by omega, by omega⟩
    · exact .inl h.1
  · rintro (h | h)
    · rcases freeB_iff.1 hf k h with h1 | h1
      · exact .inl (.inl ⟨h, h1⟩)
      · exact .inr ⟨h, h1⟩
    · exact .inl (.inr ⟨k - f, by omega, by omega⟩)

theorem more_perm {pg : List Nat} {f n : Nat} (hf : freeB pg f n = true) : (more pg f n).Perm ((List.range n).map (f + ·) ++ pg) := by
  have h1 : (pg.filter (· < f) ++ pg.filter (f + n ≤ ·)).Perm pg := by
    have : pg.filter (f + n ≤ ·) = pg.filter (fun k => !decide (k < f)) := by
      apply List.filter_congr
      intro k hk
      rcases freeB_iff.1 hf k hk with h | h
      · have : ¬ f + n ≤ k := by omega
        simp [h, this]
      · have : ¬ k < f := by omega
        simp [h, this]
    rw [this]
    exact List.filter_append_perm _ pg
  unfold more
  rw [List.append_assoc]
  refine List.Perm.trans ?_ (List.Perm.append_left _ h1)
  rw [← List.append_assoc, ← List.append_assoc]
  exact List.Perm.append_right _ List.perm_append_comm

theorem more_length {pg : List Nat} {f n : Nat} (hf : freeB pg f n = true) : (more pg f n).length = pg.length + n := by
  rw [(more_perm hf).length_eq]; simp; omega

theorem more_sorted {pg : List Nat} {f n : Nat} (hs : pg.Pairwise (· < ·)) : (more pg f n).Pairwise (· < ·) := by
  unfold more
  rw [List.pairwise_append, List.pairwise_append]
  refine ⟨⟨hs.filter _, ?_, ?_⟩, hs.filter _, ?_⟩
  · rw [List.pairwise_map]
    exact (List.pairwise_lt_range).imp (by intro a b h; omega)
  · intro a ha b hb
    simp only [List.mem_filter, decide_eq_true_eq] at ha
    obtain ⟨j, _, rfl⟩ := List.mem_map.1 hb
    omega
  · intro a ha b hb
    simp only [List.mem_filter, decide_eq_true_eq] at hb
    rcases List.mem_append.1 ha with ha | ha
    · simp only [List.mem_filter, decide_eq_true_eq] at ha; omega
    · obtain ⟨j, hj, rfl⟩ := List.mem_map.1 ha
      have := List.mem_range.1 hj
      omega

theorem more_ok {S : Slb} (h : S.Ok) {f n : Nat} (hf : freeB S.pg f n = true) (hq : ((S.pg.length : Int) + n) * 64 ≤ S.quota) (hs : f + n ≤ 33554432) : ({ S with pg := more S.pg f n } : Slb).Ok := by
  refine ⟨h.q0, h.q1, ?_, more_sorted h.sorted, fun k hk => ?_, h.words, fun a ha => h.zero a fun hin => ha ((mem_more hf).2 (.inl hin))⟩
  · show 64 * ((more S.pg f n).length : Int) ≤ S.quota
    rw [more_length hf]; omega
  · rcases (mem_more hf).1 hk with h1 | h1
    · exact h.small k h1
    · omega

theorem free_one {pg : List Nat} {k : Nat} (h : k ∉ pg) : freeB pg k 1 = true := freeB_iff.2 fun j hj => by
  have : j ≠ k := fun e => h (e ▸ hj)
  omega

theorem claim_ok {S : Slb} (h : S.Ok) (n : Int) : (S.claim n).2.Ok := by
  unfold claim
  split
  · exact h
  split
  · exact h
  split
  · exact h
  · rename_i h1 h2 h3
    have hn : n.toNat ∉ S.pg := fun hin => h2 (has_iff.2 ⟨by omega, hin⟩)
    exact more_ok h (free_one hn) (by omega) (by omega)

theorem grant_ok {S : Slb} (h : S.Ok) (n : Int) : (S.grant n).2.2.Ok := by
  unfold grant
  split
  · exact h
  split
  · exact h
  · rename_i h1 h2
    obtain ⟨l1, l2, _⟩ := least_spec S.pg n.toNat (by omega)
    have hq := h.q1
    have hlen : S.pg.length ≤ 4096 := by have := h.fit; omega
    have hm : n.toNat * S.pg.length ≤ 4096 * 4096 := Nat.mul_le_mul (by omega) hlen
    exact more_ok h l2 (by omega) (by omega)

theorem mem_less {pg : List Nat} {f n k : Nat} : k ∈ less pg f n ↔ k ∈ pg ∧ ¬ (f ≤ k ∧ k < f + n) := by
  unfold less
  simp only [List.mem_filter, Bool.or_eq_true, decide_eq_true_eq]
  constructor
  · rintro ⟨h1, h2⟩; exact ⟨h1, by omega⟩
  · rintro ⟨h1, h2⟩; exact ⟨h1, by omega⟩

theorem release_ok {S : Slb} (h : S.Ok) (f n : Int) : (S.release f n).2.Ok := by
  unfold release
  split
  · exact h
  split
  · refine ⟨h.q0, h.q1, ?_, h.sorted.filter _, fun k hk => h.small k (mem_less.1 hk).1, fun a => ?_, fun a ha => ?_⟩
    · have := List.length_filter_le (fun k => decide (k < f.toNat) || decide (f.toNat + n.toNat ≤ k)) S.pg
      have := h.fit
      show 64 * ((less S.pg f.toNat n.toNat).length : Int) ≤ S.quota
      unfold less
      omega
    · dsimp only
      split
      · omega
      · exact h.words a
    · dsimp only
      split
      · rfl
      · rename_i hc
        exact h.zero a fun hin => ha (mem_less.2 ⟨hin, hc⟩)
  · exact h

theorem err_zero {S : Slb} {a : Int} (h : S.err a = 0) : 0 ≤ a ∧ a ≤ 67108863 ∧ a.toNat / 64 ∈ S.pg := by
  unfold err at h
  split at h
  · omega
  split at h
  · rename_i h1 h2
    have := (has_iff.1 h2).2
    refine ⟨by omega, by omega, ?_⟩
    have e : (a / 64).toNat = a.toNat / 64 := by omega
    rw [← e]; exact this
  · omega
theorem err_iff {S : Slb} {a : Int} (h0 : 0 ≤ a) (h1 : a ≤ 67108863) : S.err a = 0 ↔ S.has (a / 64) = true := by
  unfold err
  rw [if_neg (by omega)]
  split
  · rename_i h; simp [h]
  · rename_i h; simp [h]
theorem err_range (S : Slb) (a : Int) : S.err a = 0 ∨ S.err a = 2 ∨ S.err a = 5 := by
  unfold err; split
  · exact .inr (.inl rfl)
  split
  · exact .inl rfl
  · exact .inr (.inr rfl)

theorem write_ok {S : Slb} (h : S.Ok) (a v : Int) (v0 : 0 ≤ v) (v1 : v < 18446744073709551616) : (S.write a v).2.Ok := by
  unfold write
  split
  · rename_i he
    obtain ⟨_, _, hin⟩ := err_zero he
    refine ⟨h.q0, h.q1, h.fit, h.sorted, h.small, fun x => ?_, fun x hx => ?_⟩
    · dsimp only
      split
      · exact ⟨v0, v1⟩
      · exact h.words x
    · dsimp only
      split
      · rename_i e; subst e; exact absurd hin hx
      · exact h.zero x hx
  · exact h

theorem move_ok {S : Slb} (h : S.Ok) (to f n : Int) : (S.move to f n).2.Ok := by
  unfold move
  split
  · exact h
  split
  · rename_i hb hall
    simp only [moveBad, decide_eq_true_eq] at hb
    refine ⟨h.q0, h.q1, h.fit, h.sorted, h.small, fun x => ?_, fun x hx => ?_⟩
    · dsimp only
      split
      · exact h.words _
      · exact h.words x
    · dsimp only
      split
      · rename_i hr
        have := List.all_eq_true.1 hall (x - to.toNat) (List.mem_range.2 (by omega))
        simp only [Bool.and_eq_true] at this
        have h2 := (has_iff.1 this.2).2
        have e : ((to + ((x - to.toNat : Nat) : Int)) / 64).toNat = x / 64 := by omega
        rw [e] at h2
        exact absurd h2 hx
      · exact h.zero x hx
  · exact h

theorem nodup {S : Slb} (h : S.Ok) : S.pg.Nodup := h.sorted.imp (by intro a b h; omega)
end Slb
end Go.Proofs.YtfmkiioahnphbaaDoor
