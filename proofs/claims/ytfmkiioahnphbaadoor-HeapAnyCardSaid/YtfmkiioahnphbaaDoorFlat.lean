/- Rows of records of k cells each, as flat lists. No condition. -/
namespace Go.Proofs.YtfmkiioahnphbaaDoor

variable {α β : Type} {f : α → List β} {k : Nat}

theorem flat_len (hf : ∀ a, (f a).length = k) : ∀ l : List α, (l.flatMap f).length = l.length * k
  | [] => by simp
  | a :: l => by rw [List.flatMap_cons, List.length_append, hf, flat_len hf l, List.length_cons, Nat.add_mul]; omega

theorem flat_get (hf : ∀ a, (f a).length = k) : ∀ (l : List α) (i j : Nat) (a : α), l[i]? = some a → j < k → (l.flatMap f)[i * k + j]? = (f a)[j]?
  | [], i, j, a, h, _ => by simp at h
  | b :: l, 0, j, a, h, hj => by
    simp at h
    subst h
    rw [List.flatMap_cons, Nat.zero_mul, Nat.zero_add, List.getElem?_append_left (by rw [hf]; exact hj)]
  | b :: l, i + 1, j, a, h, hj => by
    rw [List.flatMap_cons, List.getElem?_append_right (by rw [hf, Nat.add_mul]; omega), hf]
    rw [show (i + 1) * k + j - k = i * k + j by rw [Nat.add_mul]; omega]
    exact flat_get hf l i j a (by simpa using h) hj

theorem flat_set (hf : ∀ a, (f a).length = k) : ∀ (l : List α) (i j : Nat) (a b : α) (v : β), l[i]? = some a → j < k → f b = (f a).set j v → (l.set i b).flatMap f = (l.flatMap f).set (i * k + j) v
  | [], i, j, a, b, v, h, _, _ => by simp at h
  | c :: l, 0, j, a, b, v, h, hj, hb => by
    simp at h
    subst h
    rw [List.set_cons_zero, List.flatMap_cons, List.flatMap_cons, Nat.zero_mul, Nat.zero_add, List.set_append_left _ _ (by rw [hf]; exact hj), hb]
  | c :: l, i + 1, j, a, b, v, h, hj, hb => by
    rw [List.set_cons_succ, List.flatMap_cons, List.flatMap_cons, List.set_append_right _ _ (by rw [hf, Nat.add_mul]; omega), hf]
    rw [show (i + 1) * k + j - k = i * k + j by rw [Nat.add_mul]; omega]
    rw [flat_set hf l i j a b v (by simpa using h) hj hb]

theorem flat_take (hf : ∀ a, (f a).length = k) : ∀ (l : List α) (i : Nat), i ≤ l.length → (l.take i).flatMap f = (l.flatMap f).take (i * k)
  | l, 0, _ => by simp
  | [], i + 1, h => by simp at h
  | a :: l, i + 1, h => by
    rw [List.take_succ_cons, List.flatMap_cons, List.flatMap_cons, flat_take hf l i (by simpa using h), Nat.add_mul, Nat.one_mul, Nat.add_comm, ← hf a, List.take_length_add_append]

theorem flat_drop (hf : ∀ a, (f a).length = k) : ∀ (l : List α) (i : Nat), i ≤ l.length → (l.drop i).flatMap f = (l.flatMap f).drop (i * k)
  | l, 0, _ => by simp
  | [], i + 1, h => by simp at h
  | a :: l, i + 1, h => by
    rw [List.drop_succ_cons, List.flatMap_cons, flat_drop hf l i (by simpa using h), Nat.add_mul, Nat.one_mul, Nat.add_comm, ← hf a, List.drop_length_add_append]

/-- A record replaced whole, cell by cell. -/
theorem flat_set3 (hf : ∀ a, (f a).length = k) (l : List α) (i : Nat) (b : α) (h : i < l.length) {x y z : β} (hk : k = 3) (hb : f b = [x, y, z]) : (l.set i b).flatMap f = (((l.flatMap f).set (i * k) x).set (i * k + 1) y).set (i * k + 2) z := by
  subst hk
  induction l generalizing i with
  | nil => simp at h
  | cons c l ih =>
    cases i with
    | zero =>
      have hc := hf c
      match hcf : f c, hc with
      | [p, q, r], _ => simp [List.flatMap_cons, hcf, hb]
    | succ i =>
      rw [List.set_cons_succ, List.flatMap_cons, List.flatMap_cons, ih i (by simpa using h)]
      have hc := hf c
      rw [show (i + 1) * 3 = i * 3 + 3 by omega]
      rw [List.set_append_right _ _ (by omega), List.set_append_right _ _ (by omega), List.set_append_right _ _ (by omega), hc]
      congr 4 <;> omega
end Go.Proofs.YtfmkiioahnphbaaDoor
