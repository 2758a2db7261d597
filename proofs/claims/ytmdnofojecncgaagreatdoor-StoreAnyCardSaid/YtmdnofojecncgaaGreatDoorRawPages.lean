/- Pages as package api tells them: cells, copies of them. No condition. -/
import Derived.Test.YtmdnofojecncgaaGreatDoorHeapE
import Derived.Test.YtmdnofojecncgaaGreatDoorFlat
import Derived.Deep.MidRow
set_option linter.unusedVariables false
set_option linter.unusedSimpArgs false
set_option maxRecDepth 100000
namespace Go.Proofs.YtmdnofojecncgaaGreatDoor
open Go Go.RowKit

/-- A page of the reference's: its number, its words. -/
def pcell (wd : Nat → Int) (k : Nat) : List Value := .int .i64 k :: (List.range 64).map fun j => .int .u64 (wd (64 * k + j))
def prow (wd : Nat → Int) (pg : List Nat) : List Value := pg.flatMap (pcell wd)
theorem pcell_len (wd : Nat → Int) (k : Nat) : (pcell wd k).length = 65 := by simp [pcell]
theorem prow_len (wd : Nat → Int) (pg : List Nat) : (prow wd pg).length = pg.length * 65 := flat_len (pcell_len wd) pg
theorem prow_num {wd : Nat → Int} {pg : List Nat} {i k : Nat} (h : pg[i]? = some k) : (prow wd pg)[i * 65]? = some (.int .i64 k) := by
  have := flat_get (pcell_len wd) pg i 0 k h (by omega)
  rw [Nat.add_zero] at this
  exact this
theorem prow_word {wd : Nat → Int} {pg : List Nat} {i k j : Nat} (h : pg[i]? = some k) (hj : j < 64) : (prow wd pg)[i * 65 + 1 + j]? = some (.int .u64 (wd (64 * k + j))) := by
  have := flat_get (pcell_len wd) pg i (1 + j) k h (by omega)
  rw [← Nat.add_assoc] at this
  rw [prow, this, pcell, Nat.add_comm 1 j, List.getElem?_cons_succ]
  simp [hj]
theorem prow_one (wd : Nat → Int) (pg : List Nat) : ∀ u ∈ prow wd pg, u.oneCell' = true := by
  intro u hu
  obtain ⟨s, _, hs⟩ := List.mem_flatMap.1 hu
  rcases List.mem_cons.1 hs with rfl | hs
  · rfl
  · obtain ⟨j, _, rfl⟩ := List.mem_map.1 hs
    rfl

variable {F : Nat → Prop} {w0 w : World}

theorem infoPage : ∃ i, Tryz.prog.info? 98 = some i ∧ (∃ z, i.zero = some z ∧ z.cells.size = 65) ∧ i.size = 65 ∧ i.bytes = 520 := by
  have h : ((Tryz.prog.info? 98).map fun i => ((i.zero.map fun z => z.cells.size), i.size, i.bytes)) = some (some 65, 65, 520) := by kernel_rfl
  cases hi : Tryz.prog.info? 98 with
  | none => rw [hi] at h; simp at h
  | some i =>
    rw [hi] at h
    simp only [Option.map_some, Option.some.injEq, Prod.mk.injEq] at h
    obtain ⟨h1, h2, h3⟩ := h
    cases hz : i.zero with
    | none => rw [hz] at h1; simp at h1
    | some z => exact ⟨i, rfl, ⟨z, hz, by rw [hz] at h1; simpa using h1⟩, h2, h3⟩

/-- A new page's cells. -/
def pcell0 (k : Nat) : List Value := .int .i64 k :: List.replicate 64 (.int .u64 0)
theorem pcell_zero {wd : Nat → Int} {k : Nat} (h : ∀ j, j < 64 → wd (64 * k + j) = 0) : pcell wd k = pcell0 k := by
  unfold pcell pcell0
  congr 1
  rw [List.map_congr_left (g := fun _ => Value.int .u64 0) (fun j hj => by rw [h j (List.mem_range.1 hj)])]
  rfl

section
variable {Ps : List Res} {F0 : Nat → Prop} {P : Program}
theorem wpList_append_sepC {ops : Array Oper} {rest : List Oper} {o : Oper} {a : Act} {Q : Exit → Act → World → Prop} (h : Sep F0 w0 w Ps) (j : Nat) {e size : Nat} {v : Value} {n : Nat} {xs : List Value}
    (hj : Ps[j]? = some (rowAt e size v n xs)) (hgd : o.guard = none) (s x : Operand) (t : TypeId) (ho : o.op = .call { callee := .builtin .append, args := #[s, x], argTypes := #[t, t] })
    {i : TypeInfo} {z : Value} {bytes : Nat} (ht : P.underlying t = some (.slice e)) (hi : P.info? e = some i) (hz : i.zero = some z)
    (hsize : i.size = size) (hby : i.bytes = bytes) (hzs : z.cells.size = size) (hsz : 0 < size)
    (hs : a.eval s = v) (news : List Value) (m : Nat) (hx : a.eval x = .slice (some ⟨m, 0, none⟩) 1 1) (hm : m = w.heap.size) (hl : news.length = size) (h1 : ∀ u ∈ news, u.oneCell' = true) (T : TypeId) (C : Array Value) (hC : C = news.toArray)
    (h63 : n + 1 ≤ maxLen) (hbytes : (n + 1) * bytes ≤ 140737488355328)
    (k : ∀ g cap w', Sep F0 w0 w' (Ps.set j (rowAt e size (.slice (some ⟨g, 0, none⟩) (n + 1) cap) (n + 1) (xs ++ news))) →
      wpList P ops Q rest (a.put o.dst (.slice (some ⟨g, 0, none⟩) (n + 1) cap)) w') : wpList P ops Q (o :: rest) a (w.alloc (.cells C T)) := by
  subst hC
  exact wpList_append_sep h j hj hgd s x t ho ht hi hz hsize hby hzs hsz hs news m hx hm hl h1 T h63 hbytes k
end

theorem pcell0_len (k : Nat) : (pcell0 k).length = 65 := rfl
theorem pcell0_one (k : Nat) : ∀ u ∈ pcell0 k, u.oneCell' = true := by
  intro u hu
  rcases List.mem_cons.1 hu with rfl | hu
  · rfl
  · rw [(List.mem_replicate.1 hu).2]; rfl

theorem fold_set : ∀ (l : List Value) (k : Nat) (I : Array Value), I.size = k + l.length → (l.zipIdx k).foldl (fun cs x => cs.setIfInBounds x.2 x.1) I = (I.toList.take k ++ l).toArray
  | [], k, I, h => by
    simp only [List.zipIdx_nil, List.foldl_nil, List.append_nil]
    rw [List.take_of_length_le (by simp at h ⊢; omega)]
  | x :: l, k, I, h => by
    rw [List.zipIdx_cons, List.foldl_cons]
    rw [fold_set l (k + 1) _ (by simp at h ⊢; omega)]
    congr 1
    have hk : k < I.toList.length := by simp at h ⊢; omega
    rw [Array.toList_setIfInBounds, List.take_add_one, List.take_set_of_le (Nat.le_refl _), List.getElem?_set_self hk]
    simp
theorem fold_page (I A : Array Value) (hI : I.size = 65) (hA : A.size = 65) : Array.foldl (fun cs x => cs.setIfInBounds x.snd x.fst) I (A.zipIdx 0) 0 65 = A := by
  have h := fold_set A.toList 0 I (by simp [hI, hA])
  rw [List.take_zero, List.nil_append] at h
  have e : (A.zipIdx 0).toList = A.toList.zipIdx 0 := Array.toList_zipIdx
  rw [← e] at h
  have e2 : (65 : Nat) = (A.zipIdx 0).size := by simp [hA]
  rw [e2, ← Array.foldl_toList]
  simpa using h
theorem zeroPageV (W : World) : (zeroValue 98).run Tryz.prog W = .ok (.agg (pcell0 0).toArray) W := by kernel_rfl
theorem page_zero (n : Nat) : ∃ Z A : Array Value, (∀ W, (zeroValue 98).run Tryz.prog W = .ok (.agg Z) W) ∧ ((Z = #[]) = False) ∧ Z.setIfInBounds 0 (.int .i64 n) = A ∧ Z = (pcell0 0).toArray ∧ A = (pcell0 n).toArray ∧ A.size = 65 :=
  ⟨_, _, zeroPageV, by simp [pcell0], rfl, rfl, by simp [pcell0], by simp [pcell0]⟩

theorem page_range {g o : Nat} {S : Slb} {k : Nat} (h0 : w.cell? ⟨g, o, none⟩ = some (.int .i64 k)) (h1 : ∀ j, j < 64 → w.cell? ⟨g, o + 1 + j, none⟩ = some (.int .u64 (S.wd (64 * k + j)))) :
    w.rangeAt g o (pcell S.wd k) := by
  intro j v hv
  have hj : j < 65 := by have := (List.getElem?_eq_some_iff.1 hv).1; rw [pcell_len] at this; exact this
  cases j with
  | zero => rw [Nat.add_zero, h0]; simpa [pcell] using hv
  | succ j =>
    rw [show o + (j + 1) = o + 1 + j by omega, h1 j (by omega)]
    rw [pcell, List.getElem?_cons_succ] at hv
    have hj2 : j < 64 := by omega
    simpa [hj2] using hv
theorem page_size (wd : Nat → Int) (k : Nat) : (Tryz.prog.info? 98).map (·.size) = some (pcell wd k).length := by rw [pcell_len]; kernel_rfl

theorem page_any : ∃ Z : Array Value, (∀ W, (zeroValue 98).run Tryz.prog W = .ok (.agg Z) W) ∧ ((Z = #[]) = False) := ⟨_, zeroPageV, by simp [pcell0]⟩

theorem pcell_one (wd : Nat → Int) (k : Nat) : ∀ u ∈ pcell wd k, u.oneCell' = true := by
  intro u hu
  rcases List.mem_cons.1 hu with rfl | hu
  · rfl
  · obtain ⟨j, _, rfl⟩ := List.mem_map.1 hu
    rfl

theorem prow_snoc (wd : Nat → Int) (L : List Nat) (k : Nat) : prow wd (L ++ [k]) = prow wd L ++ pcell wd k := by simp [prow]

end Go.Proofs.YtmdnofojecncgaaGreatDoor
