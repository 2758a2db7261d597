/- One element more behind a row of the call's own: the row's block is the old one or a new one. No condition beyond the row's bounds. -/
import Derived.Test.YtnkdopaajpbjfaaBase
namespace Go.Proofs.Ytnkdopaajpbjfaa
open Go Go.RowKit

/-- The new cells of a block that was just made. -/
theorem news_alloc (w : World) (cs : List Value) (T : TypeId) : ∀ (j : Nat) (u : Value), cs[j]? = some u → (w.alloc (.cells cs.toArray T)).cell? ((⟨w.heap.size, 0, none⟩ : Addr).add j) = some u := by
  intro j u hu
  have e : (⟨w.heap.size, 0, none⟩ : Addr).add j = ⟨w.heap.size, j, none⟩ := by unfold Addr.add; split <;> simp_all
  rw [e, cell_at (heap_alloc_new w _)]
  simpa using hu

section
variable {P : Program}

theorem run_append_one (w : World) (t ty e : TypeId) (i : TypeInfo) (z : Value) (size bytes : Nat) (ht : P.underlying t = some (.slice e)) (hi : P.info? e = some i) (hz : i.zero = some z)
    (hsize : i.size = size) (hby : i.bytes = bytes) (hzs : z.cells.size = size) (hsz : 0 < size)
    (v : Value) (n : Nat) (xs : List Value) (hown : w.ownsRow 0 e size v n xs) (news : List Value) (hl : news.length = size) (h1 : ∀ u ∈ news, u.oneCell' = true)
    (h63 : n + 1 ≤ maxLen) (hbytes : (n + 1) * bytes ≤ 140737488355328) (T : TypeId) :
    ∃ g cap w', (Builtin.append_ #[t, t] ty #[v, .slice (some ⟨w.heap.size, 0, none⟩) 1 1]).run P (w.alloc (.cells news.toArray T)) = .ok (.slice (some ⟨g, 0, none⟩) (n + 1) cap) w' ∧
      w'.ownsRow 0 e size (.slice (some ⟨g, 0, none⟩) (n + 1) cap) (n + 1) (xs ++ news) ∧ Mod (fun k => v.ownBlock = some k) w w' ∧ (v.ownBlock = some g ∨ w.heap.size ≤ g) := by
  have hnews := news_alloc w news T
  have hown1 := hown.alloc (.cells news.toArray T)
  obtain ⟨v', w', hr, hown', hg, hnil⟩ := run_append_own (P := P) (w.alloc (.cells news.toArray T)) 0 t ty e i z size bytes ht hi hz hsize hby hzs hsz v n xs hown1 ⟨w.heap.size, 0, none⟩ 1 1 news (by omega) hnews h1 h63 hbytes (Nat.zero_le _)
  obtain ⟨g, cap, rfl⟩ := Joins.ownsRow_form hown' (by omega)
  have hm : Mod (fun k => v.ownBlock = some k) w w' := ((Mod.refl _ w).alloc _).grown hg (fun k hk => .inl hk)
  refine ⟨g, cap, w', hr, hown', hm, ?_⟩
  rcases hown1.2 with ⟨rfl, rfl⟩ | ⟨g0, cap0, cur, rfl, _, hgg, hnc, _, hcs, htake⟩
  · have hx : xs = [] := List.eq_nil_of_length_eq_zero (by simpa using hown.1)
    subst hx
    obtain ⟨v2, w2, hr2, hown2, _⟩ := run_append_own (P := P) (w.alloc (.cells news.toArray T)) w.heap.size t ty e i z size bytes ht hi hz hsize hby hzs hsz (.slice none 0 0) 0 [] (World.ownsRow_nil _ _ _ _) ⟨w.heap.size, 0, none⟩ 1 1 news (by omega) hnews h1 h63 hbytes (by simp)
    rw [hr] at hr2
    simp only [Result.ok.injEq] at hr2
    obtain ⟨rfl, rfl⟩ := hr2
    exact .inr (hown2.lt g rfl).1
  · by_cases hroom : n + 1 ≤ cap0
    · have hr2 := run_append_room (P := P) (w.alloc (.cells news.toArray T)) t ty e i ht hi g0 n cap0 cur hgg ⟨w.heap.size, 0, none⟩ 1 1 news (by omega) hnews h1 hroom
        (by rw [hsize, hl, hcs]; have := Nat.mul_le_mul_right size hroom; rw [Nat.add_mul] at this; omega)
      rw [hr] at hr2
      simp only [Result.ok.injEq, Value.slice.injEq, Option.some.injEq, Addr.mk.injEq, and_true, true_and] at hr2
      exact .inl (by rw [hr2.1.1]; rfl)
    · have hr2 := run_append_grow (P := P) (w.alloc (.cells news.toArray T)) t ty e i z ht hi hz ⟨g0, 0, none⟩ n cap0 xs (by rw [hsize]; exact hown.1) (hown1.cells rfl) ⟨w.heap.size, 0, none⟩ 1 1 news (by omega) hnews (by omega)
        (by simp only [maxLen] at h63; omega) (by rw [hby]; exact growslice_fits (by omega) hbytes)
      rw [hr] at hr2
      simp only [Result.ok.injEq, Value.slice.injEq, Option.some.injEq, Addr.mk.injEq, and_true, true_and] at hr2
      exact .inr (by rw [hr2.1.1]; simp)

/-- The law for the walk: append of one element that was laid in a block of its own just before. -/
theorem wpList_append_one {ops : Array Oper} {rest : List Oper} {o : Oper} {a : Act} {Q : Exit → Act → World → Prop} (w : World) (hgd : o.guard = none) (s x : Operand) (t : TypeId)
    (ho : o.op = .call { callee := .builtin .append, args := #[s, x], argTypes := #[t, t] })
    (e : TypeId) (i : TypeInfo) (z : Value) (size bytes : Nat) (ht : P.underlying t = some (.slice e)) (hi : P.info? e = some i) (hz : i.zero = some z)
    (hsize : i.size = size) (hby : i.bytes = bytes) (hzs : z.cells.size = size) (hsz : 0 < size)
    (v : Value) (n : Nat) (xs : List Value) (hs : a.eval s = v) (hown : w.ownsRow 0 e size v n xs)
    (news : List Value) (hx : a.eval x = .slice (some ⟨w.heap.size, 0, none⟩) 1 1) (hl : news.length = size) (h1 : ∀ u ∈ news, u.oneCell' = true) (T : TypeId)
    (h63 : n + 1 ≤ maxLen) (hbytes : (n + 1) * bytes ≤ 140737488355328)
    (h : ∀ g cap w', w'.ownsRow 0 e size (.slice (some ⟨g, 0, none⟩) (n + 1) cap) (n + 1) (xs ++ news) → Mod (fun k => v.ownBlock = some k) w w' → (v.ownBlock = some g ∨ w.heap.size ≤ g) →
      wpList P ops Q rest (a.put o.dst (.slice (some ⟨g, 0, none⟩) (n + 1) cap)) w') : wpList P ops Q (o :: rest) a (w.alloc (.cells news.toArray T)) :=
  wpList_plain hgd fun K hK => by
    obtain ⟨g, cap, w', hr, h2, h3, h4⟩ := run_append_one (P := P) w t o.type e i z size bytes ht hi hz hsize hby hzs hsz v n xs hown news hl h1 h63 hbytes T
    unfold Oper.wp execOp
    simp only [ho, resolve, invoke, builtin, Sem.run_bind, Sem.run_pure, Result.andThen_ok, List.map_toArray, List.map_cons, List.map_nil, hs, hx, hr]
    exact hK _ _ (h g cap w' h2 h3 h4)

/-- The same for rows of one cell an element; the new block's number may be spelled otherwise. -/
theorem wpList_append_cell {ops : Array Oper} {rest : List Oper} {o : Oper} {a : Act} {Q : Exit → Act → World → Prop} (w : World) (hgd : o.guard = none) (s x : Operand) (t : TypeId)
    (ho : o.op = .call { callee := .builtin .append, args := #[s, x], argTypes := #[t, t] })
    (e : TypeId) (i : TypeInfo) (z : Value) (bytes : Nat) (ht : P.underlying t = some (.slice e)) (hi : P.info? e = some i) (hz : i.zero = some z)
    (hsize : i.size = 1) (hby : i.bytes = bytes) (hzs : z.cells.size = 1)
    (v : Value) (n : Nat) (xs : List Value) (hs : a.eval s = v) (hown : w.ownsRow 0 e 1 v n xs)
    (u : Value) (T m : Nat) (hx : a.eval x = .slice (some ⟨m, 0, none⟩) 1 1) (hm : m = w.heap.size) (h1 : u.oneCell' = true)
    (h63 : n + 1 ≤ maxLen) (hbytes : (n + 1) * bytes ≤ 140737488355328)
    (h : ∀ g cap w', w'.ownsRow 0 e 1 (.slice (some ⟨g, 0, none⟩) (n + 1) cap) (n + 1) (xs ++ [u]) → Mod (fun k => v.ownBlock = some k) w w' → (v.ownBlock = some g ∨ w.heap.size ≤ g) →
      wpList P ops Q rest (a.put o.dst (.slice (some ⟨g, 0, none⟩) (n + 1) cap)) w') : wpList P ops Q (o :: rest) a (w.alloc (.cells #[u] T)) :=
  wpList_append_one w hgd s x t ho e i z 1 bytes ht hi hz hsize hby hzs (by decide) v n xs hs hown [u] (hm ▸ hx) rfl (by simp [h1]) T h63 hbytes h
end
end Go.Proofs.Ytnkdopaajpbjfaa
