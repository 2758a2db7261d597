/- What is appended: a part of a slice; append at a step of a region that draws. No condition. -/
import Derived.Test.YtfmkiioahnphbaaDoorGround
set_option linter.unusedVariables false
set_option linter.unusedSimpArgs false
set_option maxRecDepth 100000
namespace Go.Proofs.YtfmkiioahnphbaaDoor
open Go Go.RowKit
variable {F0 : Nat → Prop} {w0 w : World} {Ps : List Res}

theorem rowCap {e size n cap : Nat} {sa : Option Addr} {xs : List Value} (hr : w.ownsRow 0 e size (.slice sa n cap) n xs) : n ≤ cap := by
  rcases hr.2 with ⟨hv, hn⟩ | ⟨g, cap', cur, hv, _, _, h1, _⟩
  · omega
  · simp only [Value.slice.injEq] at hv
    obtain ⟨_, _, rfl⟩ := hv
    first | exact h1 | omega
theorem srcHead {e size g n cap : Nat} {xs : List Value} (hr : w.ownsRow 0 e size (.slice (some ⟨g, 0, none⟩) n cap) n xs) (h1 : ∀ u ∈ xs, u.oneCell' = true) (m c : Nat) (hm : m ≤ n) : SrcOf w size (.slice (some ⟨g, 0, none⟩) m c) m (xs.take (m * size)) := by
  have := srcOf_part hr h1 0 m c (by omega)
  rwa [Nat.zero_mul, List.drop_zero] at this
theorem srcTail {e size g n cap : Nat} {xs : List Value} (hr : w.ownsRow 0 e size (.slice (some ⟨g, 0, none⟩) n cap) n xs) (h1 : ∀ u ∈ xs, u.oneCell' = true) (k : Nat) (hk : k ≤ n) :
    SrcOf w size (.slice (if cap = k then some ⟨g, 0, none⟩ else some ⟨g, k * size, none⟩) (n - k) (cap - k)) (n - k) (xs.drop (k * size)) := by
  have hl : xs.length = n * size := hr.1
  by_cases h : cap = k
  · have : n = k := by have := rowCap hr; omega
    subst this
    rw [if_pos h, Nat.sub_self]
    refine .inr ⟨_, _, rfl, ?_, ?_, ?_⟩
    · rw [List.length_drop, hl]; omega
    · intro j u hj
      rw [List.getElem?_drop, List.getElem?_eq_none (by omega)] at hj
      simp at hj
    · intro u hu
      exact h1 u (List.mem_of_mem_drop hu)
  · rw [if_neg h]
    have := srcOf_part hr h1 k (n - k) (cap - k) (by omega)
    rwa [List.take_of_length_le (by rw [List.length_drop, hl, Nat.sub_mul]; exact Nat.le_refl _)] at this

theorem oper_append_src {P : Program} {o : Oper} {a : Act} {K : Act → World → Prop} {Q : Exit → Act → World → Prop} (h : Sep F0 w0 w Ps) (j : Nat) {e size : Nat} {v : Value} {n : Nat} {xs : List Value}
    (hj : Ps[j]? = some (rowAt e size v n xs)) (s x : Operand) (t : TypeId) (ho : o.op = .call { callee := .builtin .append, args := #[s, x], argTypes := #[t, t] })
    {i : TypeInfo} {z : Value} {bytes : Nat} (ht : P.underlying t = some (.slice e)) (hi : P.info? e = some i) (hz : i.zero = some z)
    (hsize : i.size = size) (hby : i.bytes = bytes) (hzs : z.cells.size = size) (hsz : 0 < size)
    (hs : a.eval s = v) (src : Value) {m : Nat} {news : List Value} (hx : a.eval x = src) (hsrc : SrcOf w size src m news)
    (h63 : n + m ≤ maxLen) (hbytes : (n + m) * bytes ≤ 140737488355328)
    (k : ∀ sa cap w', Sep F0 w0 w' (Ps.set j (rowAt e size (.slice sa (n + m) cap) (n + m) (xs ++ news))) → K (a.put o.dst (.slice sa (n + m) cap)) w') : Oper.wp P o a w K Q := by
  obtain ⟨F, hP, _, back⟩ := h.at_ j hj
  have key : ∃ v' w', (Builtin.append_ #[t, t] o.type #[v, src]).run P w = .ok v' w' ∧ w'.ownsRow 0 e size v' (n + m) (xs ++ news) ∧ w.grownBy w' v.ownBlock ∧ (v'.ownBlock = v.ownBlock ∨ v'.ownBlock = some w.heap.size) := by
    rcases hsrc with ⟨rfl, rfl, rfl⟩ | ⟨ad, c, rfl, hl, hnews, h1⟩
    · exact ⟨v, w, run_append_owned_none (P := P) w 0 t o.type e i size ht hi v n xs hP.1, by simpa using hP.1, ⟨rfl, rfl, rfl, Nat.le_refl _, fun _ _ _ => rfl⟩, .inl rfl⟩
    · obtain ⟨v', w', hr, h2, h3, _, h5⟩ := run_append_own_at (P := P) w 0 t o.type e i z size bytes ht hi hz hsize hby hzs hsz v n xs hP.1 ad m c news hl hnews h1 h63 hbytes (Nat.zero_le _)
      exact ⟨v', w', hr, h2, h3, h5⟩
  obtain ⟨v', w', hr, h2, h3, h5⟩ := key
  have form : ∃ sa cap, v' = .slice sa (n + m) cap := by
    obtain ⟨rfl, hz⟩ | ⟨g, cap, rfl⟩ := Joins.ownsRow_forms h2
    · exact ⟨none, 0, by rw [hz]⟩
    · exact ⟨_, _, rfl⟩
  obtain ⟨sa, cap, rfl⟩ := form
  have hS := back (rowAt e size (.slice sa (n + m) cap) (n + m) (xs ++ news)) w' _ ⟨h2, rfl⟩ ((Mod.refl F w).grown h3 (fun k hk => .inl (by rw [hP.2]; exact hk))) (fun k hk => by
    rw [hP.2]
    exact h5.elim (fun e => .inl (by rw [← e]; exact hk)) (fun e => .inr (by rw [e] at hk; simp at hk; omega)))
  unfold Oper.wp execOp
  simp only [ho, resolve, invoke, builtin, Sem.run_bind, Sem.run_pure, Result.andThen_ok, List.map_toArray, List.map_cons, List.map_nil, hs, hx, hr]
  exact k sa cap w' hS
end Go.Proofs.YtfmkiioahnphbaaDoor
