/- A region that draws its order, walked by hand: the condition on the world may be turned for a stronger one on the way. No condition. | A region that draws its order, in a round of a loop over a function: walked as outside. No condition. | Package heap, walked: place, find. Conditions: the heap's arena is as said. | Package heap, walked: clear, take. Conditions: the heap's arena is as said. -/
import Derived.Deep.RegionHeld3
import Derived.OwnWalkIn
import Derived.RangeFuncCalls
import Derived.Test.YtfmkiioahnphbaaDoorHeapA
set_option linter.unusedVariables false
set_option linter.unusedSimpArgs false
set_option maxRecDepth 100000
namespace Go.Proofs.YtfmkiioahnphbaaDoor
open Go

variable {P : Program} {md : Region.Mode} {ops : Array Oper} {Q : Exit → Act → World → Prop} {S S2 : World → Prop}

theorem wpAnyH_sub (hs : ∀ w, S2 w → S w) : ∀ (fuel : Nat) (listed : Array Bool) (a : Act) (w : World), wpAnyH P md ops Q S2 fuel listed a w → wpAnyH P md ops Q S fuel listed a w
  | 0, _, _, _, h => h
  | fuel + 1, _, _, _, h => ⟨h.1, fun i hi => wpOp_mono (fun a' w' h' => ⟨hs _ h'.1, wpAnyH_sub hs fuel _ a' w' h'.2⟩) (h.2 i hi)⟩

/-- 'wpAnyH_take', the temporary named. -/
theorem wpAnyH_takeD {i : Nat} {oi : Oper} {v : Value} {fuel : Nat} {listed : Array Bool} {a : Act} {w : World} (d : Option Tmp) (hi : ops[i]? = some oi) (hd : oi.dst = d)
    (hs : Region.noSelect ops = true) (hf : Region.free md ops listed i = true) (hr : (Region.ready md ops listed).contains i = true)
    (hQ : ∀ c a w, Q (.panic c) (a.put d v) w → Q (.panic c) a w) (hy : YieldsIf P ops S oi v a) (hS : S w)
    (h : wpAnyH P md ops Q S fuel (listed.setIfInBounds i true) (a.put d v) w) : wpAnyH P md ops Q S (fuel + 1) listed a w := by
  subst hd
  exact wpAnyH_take hi hs hf hr hQ hy hS h
end Go.Proofs.YtfmkiioahnphbaaDoor

namespace Go.Proofs.YtfmkiioahnphbaaDoor
open Go

variable {P : Program} {md : Region.Mode} {ops : Array Oper} {Q : Exit → Act → World → Prop} {S : World → Prop} {l n : Nat}

theorem oper_round {o : Oper} {a : Act} {w : World} {K : Act → World → Prop} (hd : ∀ c, o.op ≠ .defer c) (h : o.wp P a w K Q) : o.wpIn (Fence.wide.inRound l) n P a w K Q := by
  refine ⟨fun _ _ => trivial, ?_⟩
  rw [Oper.semAt_plain _ _ _ hd]
  unfold Oper.wp at h
  generalize (execOp a.eval o).run P w = r at *
  have hdep : (Fence.wide.inRound l).depth.isSome = true → 1 ≤ n := fun e => by cases e
  cases r with
  | ok x w' =>
    cases x with
    | value v => exact h
    | skip => exact h
    | defer d => exact h
    | enter f args => exact ⟨hdep, CallsIn.inRound l (callsIn_wide.2 h)⟩
    | row r args => exact ⟨hdep, fun c cs _ => let ⟨v, w', r, s⟩ := h c cs; ⟨v, w', r, stepsIn_wide.2 s⟩⟩
    | _ => exact h.elim
  | halt x w' => cases x <;> first | exact h | exact h.elim

theorem wpOp_round {i : Nat} {a : Act} {w : World} {K : Act → World → Prop} (hd : ∀ (j : Nat) (o : Oper) c, ops[j]? = some o → o.op ≠ .defer c) (hQ : ¬ LetsOut Q) (h : wpOp P ops Q i K a w) : wpOpIn (Fence.wide.inRound l) n P ops Q i K a w := by
  unfold wpOp at h
  unfold wpOpIn
  cases ho : ops[i]? with
  | none => rw [ho] at h; exact h
  | some o =>
    rw [ho] at h
    dsimp only at h ⊢
    by_cases hw : Region.wanted o (yielded ops a.tmps) = true
    · rw [if_pos hw] at h ⊢
      rcases h with h | h
      · exact oper_round (fun c => hd i o c ho) h
      · exact (hQ h.2).elim
    · rw [if_neg hw] at h ⊢
      exact ⟨fun _ _ => trivial, h⟩

theorem wpAny_round (hd : ∀ (j : Nat) (o : Oper) c, ops[j]? = some o → o.op ≠ .defer c) (hQ : ¬ LetsOut Q) : ∀ (fuel : Nat) (listed : Array Bool) (a : Act) (w : World), wpAny P md ops Q fuel listed a w → wpAnyIn (Fence.wide.inRound l) n P md ops Q fuel listed a w
  | 0, _, _, _, h => h
  | fuel + 1, _, _, _, h => ⟨h.1, fun i hi => wpOpIn_mono (fun a' w' h' => wpAny_round hd hQ fuel _ a' w' h') (wpOp_round hd hQ (h.2 i hi))⟩

def noDefer (ops : Array Oper) : Bool := ops.all fun o => match o.op with | .defer _ => false | _ => true
theorem noDefer_spec (h : noDefer ops = true) : ∀ (j : Nat) (o : Oper) c, ops[j]? = some o → o.op ≠ .defer c := fun j o c ho e => by
  have := Array.all_eq_true.1 h j (Array.getElem?_eq_some_iff.1 ho).1
  rw [(Array.getElem?_eq_some_iff.1 ho).2, e] at this
  cases this

/-- A region in a round, under a condition on the world. -/
theorem wp_region_round {id : Nat} {a : Act} {w : World} (hm : P.follows .mixedOrders = true) (hd : noDefer ops = true) (hQ : ¬ LetsOut Q) (hS : S w.drew)
    (h : S w.drew → wpAnyH P .any ops Q S ops.size (Array.replicate ops.size false) a w.drew) : (Code.region id ops true).wpIn (Fence.wide.inRound l) n P Q a w :=
  wpIn_region_any hm (wpAny_round (noDefer_spec hd) hQ _ _ _ _ (wpAny_of_held _ _ _ _ (h hS)))
end Go.Proofs.YtfmkiioahnphbaaDoor

namespace Go.Proofs.YtfmkiioahnphbaaDoor
open Go Go.RowKit Go.Shelf

variable {F0 : Nat → Prop} {w0 w : World} {Ps : List Res}

/-- Where a slot of a page begins. -/
def hplace (p c k : Int) : Int := p * 64 + (cplace c k).1
theorem cplace_range (c k : Int) : 0 ≤ (cplace c k).1 ∧ (cplace c k).1 ≤ 63 := by
  unfold cplace
  split
  · rename_i h
    have hr := csz_range (show c.toNat < 8 by omega)
    have hs1 : (cslots c).1 = ((62 / csz c.toNat : Nat) : Int) := by rw [cslots_in h.1.1 h.1.2]
    have hz1 : (csize c).1 = ((csz c.toNat : Nat) : Int) := by rw [csize_in h.1.1 h.1.2]
    have hk : k + 1 ≤ ((62 / csz c.toNat : Nat) : Int) := by omega
    have hm : (k + 1) * ((csz c.toNat : Nat) : Int) ≤ ((62 / csz c.toNat : Nat) : Int) * ((csz c.toNat : Nat) : Int) := Int.mul_le_mul_of_nonneg_right hk (by omega)
    have hm2 : ((62 / csz c.toNat : Nat) : Int) * ((csz c.toNat : Nat) : Int) ≤ 62 := by
      rw [← Int.natCast_mul]; omega
    have hm3 : 0 ≤ k * ((csz c.toNat : Nat) : Int) := Int.mul_nonneg h.2.1 (by omega)
    have hm4 : (k + 1) * ((csz c.toNat : Nat) : Int) = k * ((csz c.toNat : Nat) : Int) + ((csz c.toNat : Nat) : Int) := by rw [Int.add_mul, Int.one_mul]
    rw [hz1]
    dsimp only
    omega
  · exact ⟨Int.le_refl 0, by show (0 : Int) ≤ 63; omega⟩

set_option maxRecDepth 100000 in
theorem hplace_call (p c k : Int) (p0 : 0 ≤ p) (p1 : p ≤ 33554432) (w : World) :
    Calls Tryd.prog 26 #[.int .i64 p, .int .i64 c, .int .i64 k] w fun e w' => e = .returned (.int .i64 (hplace p c k)) ∧ Mod No w w' := by
  have hc := place_call c k w
  have hr := cplace_range c k
  unfold hplace
  generalize (cplace c k).1 = x at *
  generalize (cplace c k).2 = y at *
  have e1 : IntKind.i64.wrap (p * 64) = p * 64 := wrap_small _ (by omega) (by omega)
  have e2 : IntKind.i64.wrap (p * 64 + x) = p * 64 + x := wrap_small _ (by omega) (by omega)
  go_enter Tryd.func26, Tryd.ntmps26
  go_wp2_with fail
  refine hc.mono ?_
  rintro e w1 ⟨rfl, hm⟩
  clear hc
  go_wp2
  go_ret
  exact ⟨rfl, hm⟩

/-- The slot of a page at an address, if it is taken. -/
def slotAt (p : Nat) (x : Hd) (a : Int) : Option Nat := (List.range (cslots x.n).1.toNat).find? fun k : Nat => decide (hplace p x.n (k : Int) = a) && Bt.has x.w.toNat (k : Int)
def findF (a : Int) (x : Nat × Hd) : Option (Nat × Int × Hd) :=
  if x.2.kind = 2 ∧ a = (x.1 : Int) * 64 + 2 then some (x.1, 0, x.2)
  else if x.2.kind ≠ 1 ∨ a.tdiv 64 ≠ (x.1 : Int) then none
  else (slotAt x.1 x.2 a).map fun k => (x.1, (k : Int), x.2)
def Slb.find (S : Slb) (a : Int) : Option (Nat × Int × Hd) := S.heads.findSome? (findF a)
def hdV (h : Hd) : Value := .agg #[.int .i64 h.kind, .int .i64 h.n, .int .u64 h.w]
def findA (r : Option (Nat × Int × Hd)) : Value := match r with
  | some (p, k, h) => .tuple #[.int .i64 (p : Nat), .int .i64 k, hdV h, .bool true]
  | none => .tuple #[.int .i64 0, .int .i64 0, hdV ⟨0, 0, 0⟩, .bool false]

attribute [local go_sem] Oper.semAt_some

/-- A result's head, in a block of the function's own. -/
def HCel (b : Nat) (h : Hd) (W : World) : Prop := W.heap[b]? = some (.cells #[.int .i64 h.kind, .int .i64 h.n, .int .u64 h.w] 71 (0, 0))
theorem hcel_own {β : Type} (b : Nat) (h : Hd) : Own (fun (_ : β) W => HCel b h W) := fun _ A B row hs hg hr => by
  show B.heap[b]? = _
  have hs : A.heap[b]? = some (.cells #[.int .i64 h.kind, .int .i64 h.n, .int .u64 h.w] 71 (0, 0)) := hs
  rw [hg.block b (lt_of_at hs) (fun e => by
    obtain ⟨o, ho, hc⟩ := hr b e.symm
    rw [hs] at ho
    cases ho
    simp [Obj.isCells] at hc)]
  exact hs
theorem HCel.mod {b : Nat} {h : Hd} {A B : World} (hs : HCel b h A) (hm : Mod No A B) : HCel b h B := hm.at hs (fun x => x)
theorem HCel.alloc {b : Nat} {h : Hd} {A : World} (hs : HCel b h A) (o : Obj) : HCel b h (A.alloc o) := hs.mod ((Mod.refl No A).alloc o)

theorem HCel.cells {b : Nat} {h : Hd} {W : World} (hs : HCel b h W) : (W.cell? ⟨b, 0, none⟩ = some (.int .i64 h.kind) ∧ W.frozen? ⟨b, 0, none⟩ = false) ∧ (W.cell? ⟨b, 1, none⟩ = some (.int .i64 h.n) ∧ W.frozen? ⟨b, 1, none⟩ = false) ∧ (W.cell? ⟨b, 2, none⟩ = some (.int .u64 h.w) ∧ W.frozen? ⟨b, 2, none⟩ = false) := by
  have hs : W.heap[b]? = some (.cells #[.int .i64 h.kind, .int .i64 h.n, .int .u64 h.w] 71 (0, 0)) := hs
  refine ⟨⟨?_, ?_⟩, ⟨?_, ?_⟩, ⟨?_, ?_⟩⟩ <;> simp [World.cell?, World.frozen?, hs]

/-- The world behind find's stores. -/
def stoW (B : Nat) (W : World) (u1 u2 : Value) (h : Hd) (u4 : Value) : World :=
  (((((W.setCell ⟨B + 1, 0, none⟩ u1).setCell ⟨B + 1 + 1, 0, none⟩ u2).setCell ⟨B + 1 + 1 + 1, 0, none⟩ (.int .i64 h.kind)).setCell ⟨B + 1 + 1 + 1, 1, none⟩ (.int .i64 h.n)).setCell ⟨B + 1 + 1 + 1, 2, none⟩ (.int .u64 h.w)).setCell ⟨B + 1 + 1 + 1 + 1, 0, none⟩ u4
theorem Cel.far {l : List (Nat × Value)} {W : World} (h : Cel l W) {b : Nat} (hn : ∀ p ∈ l, p.1 ≠ b) (o : Nat) (v : Value) : Cel l (W.setCell ⟨b, o, none⟩ v) := fun p hp => by
  rw [World.frozen?_setCell, World.cell?_setCell_other _ _ _ _ (fun e => hn p hp (by injection e with e1; exact e1.symm))]
  exact h p hp
theorem sto_fin0 {B0 B : Nat} {w W : World} {a : Value} {h0 : Hd} {v1 v2 v4 : Value} (hC : Cel [(B, a), (B + 1, v1), (B + 1 + 1, v2), (B + 1 + 1 + 1 + 1, v4)] W) (hH : HCel (B + 1 + 1 + 1) h0 W) (hB : Below B0 w W) (hle : B0 ≤ B) (u1 u2 : Value) (h : Hd) (u4 : Value) :
    KeepsOthers W (stoW B W u1 u2 h u4) ∧ Cel [(B, a), (B + 1, u1), (B + 1 + 1, u2), (B + 1 + 1 + 1 + 1, u4)] (stoW B W u1 u2 h u4) ∧ HCel (B + 1 + 1 + 1) h (stoW B W u1 u2 h u4) ∧ Below B0 w (stoW B W u1 u2 h u4) := by
  have hpw : [B, B + 1, B + 1 + 1, B + 1 + 1 + 1 + 1].Pairwise (· ≠ ·) := by simp; omega
  have c1 := (hC.set 1 rfl (Cel.ne hpw rfl) u1).set 2 rfl (Cel.ne hpw rfl) u2
  have c2 := ((c1.far (b := B + 1 + 1 + 1) (by simp; omega) 0 (.int .i64 h.kind)).far (b := B + 1 + 1 + 1) (by simp; omega) 1 (.int .i64 h.n)).far (b := B + 1 + 1 + 1) (by simp; omega) 2 (.int .u64 h.w)
  have c3 := c2.set 3 rfl (Cel.ne hpw rfl) u4
  refine ⟨?_, ?_, ?_, ?_⟩
  · exact (((((KeepsOthers.setCell W _ _).trans (KeepsOthers.setCell _ _ _)).trans (KeepsOthers.setCell _ _ _)).trans (KeepsOthers.setCell _ _ _)).trans (KeepsOthers.setCell _ _ _)).trans (KeepsOthers.setCell _ _ _)
  · exact c3
  · have hH : W.heap[B + 1 + 1 + 1]? = some (.cells #[.int .i64 h0.kind, .int .i64 h0.n, .int .u64 h0.w] 71 (0, 0)) := hH
    have e1 : ((W.setCell ⟨B + 1, 0, none⟩ u1).setCell ⟨B + 1 + 1, 0, none⟩ u2).heap[B + 1 + 1 + 1]? = some (.cells #[.int .i64 h0.kind, .int .i64 h0.n, .int .u64 h0.w] 71 (0, 0)) := by
      rw [at_setCell_ne _ _ (show B + 1 + 1 + 1 ≠ B + 1 + 1 by omega), at_setCell_ne _ _ (show B + 1 + 1 + 1 ≠ B + 1 by omega)]; exact hH
    have e2 := at_setCell e1 0 (.int .i64 h.kind)
    have e3 := at_setCell e2 1 (.int .i64 h.n)
    have e4 := at_setCell e3 2 (.int .u64 h.w)
    have ea : ((#[Value.int .i64 h0.kind, .int .i64 h0.n, .int .u64 h0.w].setIfInBounds 0 (.int .i64 h.kind)).setIfInBounds 1 (.int .i64 h.n)).setIfInBounds 2 (.int .u64 h.w) = #[Value.int .i64 h.kind, .int .i64 h.n, .int .u64 h.w] := by simp
    rw [ea] at e4
    unfold HCel stoW
    rw [at_setCell_ne _ _ (show B + 1 + 1 + 1 ≠ B + 1 + 1 + 1 + 1 by omega)]
    exact e4
  · exact ((((((hB.setCell (p := ⟨B + 1, 0, none⟩) (by simp; omega) _).setCell (p := ⟨B + 1 + 1, 0, none⟩) (by simp; omega) _).setCell (p := ⟨B + 1 + 1 + 1, 0, none⟩) (by simp; omega) _).setCell (p := ⟨B + 1 + 1 + 1, 1, none⟩) (by simp; omega) _).setCell (p := ⟨B + 1 + 1 + 1, 2, none⟩) (by simp; omega) _).setCell (p := ⟨B + 1 + 1 + 1 + 1, 0, none⟩) (by simp; omega) _)
theorem sto_fin {B0 B : Nat} {w W : World} {a : Value} {hd0 : Hd} {v1 v2 v4 : Value} (hC : Cel [(B, a), (B + 1, v1), (B + 1 + 1, v2), (B + 1 + 1 + 1 + 1, v4)] W) (hH : HCel (B + 1 + 1 + 1) hd0 W) (hB : Below B0 w W) (hle : B0 ≤ B) (h0 : B0 ≤ w.heap.size) (u1 u2 : Value) (h : Hd) :
    KeepsOthers W (stoW B W u1 u2 h (.bool true)).drew ∧ Cel [(B, a), (B + 1, u1), (B + 1 + 1, u2), (B + 1 + 1 + 1 + 1, .bool true)] (stoW B W u1 u2 h (.bool true)).drew ∧ HCel (B + 1 + 1 + 1) h (stoW B W u1 u2 h (.bool true)).drew ∧ Below B0 w (stoW B W u1 u2 h (.bool true)).drew := by
  have hz := sto_fin0 hC hH hB hle u1 u2 h (.bool true)
  have hm : Mod No (stoW B W u1 u2 h (.bool true)) (stoW B W u1 u2 h (.bool true)).drew := (Mod.refl No _).drew
  exact ⟨hz.1.trans (KeepsOthers.of_mod hm), hz.2.1.mod hm, hz.2.2.1.mod hm, hz.2.2.2.trans (hm.below _ (Nat.le_trans h0 hz.2.2.2.size) (fun _ _ x => x))⟩
theorem HCel.put {b : Nat} {h : Hd} {W : World} (hs : HCel b h W) {D : Nat} {x : Obj} (hK : W.heap[D]? = some x) (hx : x.isCells = false) (o : Obj) : HCel b h (W.putObj D o) :=
  hcel_own (β := Unit) b h () _ _ _ hs (grownBy_putObj' W D o) (fun r e => by cases e; exact ⟨_, hK, hx⟩)

theorem tdiv_bound (a : Int) : -((a.natAbs / 64 : Nat) : Int) ≤ a.tdiv 64 ∧ a.tdiv 64 ≤ ((a.natAbs / 64 : Nat) : Int) := by
  rcases Int.le_total 0 a with h | h
  · rw [Int.tdiv_eq_ediv_of_nonneg h]; omega
  · have e : a.tdiv 64 = -((-a).tdiv 64) := by rw [Int.neg_tdiv, Int.neg_neg]
    rw [e, Int.tdiv_eq_ediv_of_nonneg (by omega)]; omega

theorem HBox.far {Bx : Nat} {h : Hd} {W : World} (hb : HBox Bx h W) {c : Nat} (hn : Bx ≠ c) (o : Nat) (v : Value) : HBox Bx h (W.setCell ⟨c, o, none⟩ v) :=
  ⟨by rw [World.cell?_setCell_other _ _ _ _ (fun e => hn (by injection e with e1; exact e1.symm))]; exact hb.1, by rw [World.cell?_setCell_other _ _ _ _ (fun e => hn (by injection e with e1; exact e1.symm))]; exact hb.2.1, by rw [World.cell?_setCell_other _ _ _ _ (fun e => hn (by injection e with e1; exact e1.symm))]; exact hb.2.2⟩
theorem HBox.dr {Bx : Nat} {h : Hd} {W : World} (hb : HBox Bx h W) : HBox Bx h W.drew := hb
theorem find_range {f : Nat → Bool} {n k : Nat} (hk : k < n) (h : f k = true) (hb : ∀ k', k' < k → f k' = false) : (List.range n).find? f = some k := by
  rw [List.find?_eq_some_iff_getElem]
  refine ⟨h, k, by simpa using hk, by simp, fun j hj => ?_⟩
  rw [List.getElem_range, hb j hj]
  rfl

def NoSlot (p nn : Int) (N : Nat) (a : Int) (k : Nat) : Prop := ∀ k' : Nat, k' < k → (decide (hplace p nn (k' : Int) = a) && Bt.has N (k' : Int)) = false


set_option maxRecDepth 100000 in
set_option maxHeartbeats 4000000 in
theorem find_in (hS : Sep F0 w0 w Ps) (i j : Nat) {b s : Nat} {S : Slb} (hi : Ps[i]? = some (hpAt b s)) (hj : Ps[j]? = some (slabR s S)) (a : Int) (a0 : -9223372036854775808 ≤ a) (a1 : a ≤ 9223372036854775807) :
    Calls Tryd.prog 27 #[.pointer (some ⟨b, 0, none⟩), .int .i64 a] w fun e w' => e = .returned (findA (S.find a)) ∧ Below w.heap.size w w' := by
  have hok := hS.sOk j hj
  refine (callsIn_wide (n := 4)).1 ?_
  refine callsIn_of_wp_marks Tryd.func27 rfl trivial ?_ rfl
  simp only [Tryd.ntmps27, List.size_toArray, List.length_cons, List.length_nil, Nat.reduceAdd, Nat.reduceSub, Array.replicate_succ, Array.replicate_zero, List.push_toArray, List.append_toArray, List.nil_append, List.cons_append]
  gi_wp2_with fail
  refine ⟨trivial, ?_⟩
  refine (callsIn_wide.2 (heads_call b _)).mono ?_
  rintro e w2 ⟨rfl, rfl⟩
  gi_wp2_with fail
  obtain ⟨W0, hW0⟩ : ∃ x, (((((w.alloc (.cells #[.int .i64 a] 3)).alloc (.cells #[.int .i64 0] 3)).alloc (.cells #[.int .i64 0] 3)).alloc (.cells #[.int .i64 0, .int .i64 0, .int .u64 0] 71)).alloc (.cells #[.bool false] 4)).alloc (.cells #[.pointer (some ⟨b, 0, none⟩)] 35) = x := ⟨_, rfl⟩
  have hsz : W0.heap.size = w.heap.size + 6 := by rw [← hW0]; simp
  have hb0 : Below w.heap.size w W0 := by rw [← hW0]; exact ((((((Below.refl _ w).alloc (Nat.le_refl _) _).alloc (by simp) _).alloc (by simp; omega) _).alloc (by simp; omega) _).alloc (by simp; omega) _).alloc (by simp; omega) _
  have hc0 : Cel [(w.heap.size, .int .i64 a), (w.heap.size + 1, .int .i64 0), (w.heap.size + 1 + 1, .int .i64 0), (w.heap.size + 1 + 1 + 1 + 1, .bool false)] W0 := by
    rw [← hW0]
    have h3 := (((Cel.nil w).new (.int .i64 a) 3 rfl).new (.int .i64 0) 3 (by simp; rfl)).new (.int .i64 0) 3 (by simp; rfl)
    exact ((h3.alloc _).new (.bool false) 4 (by simp)).alloc _
  have hh0 : HCel (w.heap.size + 1 + 1 + 1) ⟨0, 0, 0⟩ W0 := by
    rw [← hW0]
    have h3 := heap_alloc_new (((w.alloc (.cells #[.int .i64 a] 3)).alloc (.cells #[.int .i64 0] 3)).alloc (.cells #[.int .i64 0] 3)) (.cells #[.int .i64 0, .int .i64 0, .int .u64 0] 71)
    simp only [World.size_alloc] at h3
    exact (((Mod.refl No _).alloc (.cells #[.bool false] 4)).alloc (.cells #[.pointer (some ⟨b, 0, none⟩)] 35)).at h3 (fun x => x)
  have hbx : W0.cell? ⟨w.heap.size + 1 + 1 + 1 + 1 + 1, 0, none⟩ = some (.pointer (some ⟨b, 0, none⟩)) := by
    rw [← hW0]
    have := cell_at (heap_alloc_new (((((w.alloc (.cells #[.int .i64 a] 3)).alloc (.cells #[.int .i64 0] 3)).alloc (.cells #[.int .i64 0] 3)).alloc (.cells #[.int .i64 0, .int .i64 0, .int .u64 0] 71)).alloc (.cells #[.bool false] 4)) (.cells #[.pointer (some ⟨b, 0, none⟩)] 35)) 0
    simp only [World.size_alloc] at this
    exact this
  rw [hW0]
  have hpw : [w.heap.size, w.heap.size + 1, w.heap.size + 1 + 1, w.heap.size + 1 + 1 + 1 + 1].Pairwise (· ≠ ·) := by simp; omega
  clear hW0
  have HO := Lib.hid hok
  refine wpIn_rangeFunc_ownH rfl (by omega) (gf := 48) (lb := #[.pointer (some ⟨w.heap.size + 1 + 1 + 1 + 1 + 1, 0, none⟩)]) rfl trivial (enters_of Tryd.func48 (by kernel_rfl) rfl) (heads_stops hS i j hi hj (w.heap.size + 1 + 1 + 1 + 1 + 1) (by omega) W0 hb0 hbx 3 (by omega)) KpH.trans (KpH.b (by omega)) (Below.refl _ _) (fun _ => rfl)
    (fun pre W => ((∀ x ∈ pre, findF a x.1 = none) ∧ Cel [(w.heap.size, .int .i64 a), (w.heap.size + 1, .int .i64 0), (w.heap.size + 1 + 1, .int .i64 0), (w.heap.size + 1 + 1 + 1 + 1, .bool false)] W ∧ HCel (w.heap.size + 1 + 1 + 1) ⟨0, 0, 0⟩ W) ∧ Below w.heap.size w W)
    (fun q pre W => (∃ pre' x r, (q = .ret ∧ pre = pre' ++ [x] ∧ (∀ y ∈ pre', findF a y.1 = none) ∧ findF a x.1 = some r) ∧ Cel [(w.heap.size, .int .i64 a), (w.heap.size + 1, .int .i64 (r.1 : Nat)), (w.heap.size + 1 + 1, .int .i64 r.2.1), (w.heap.size + 1 + 1 + 1 + 1, .bool true)] W ∧ HCel (w.heap.size + 1 + 1 + 1) r.2.2 W) ∧ Below w.heap.size w W)
    (OwnFrom.and (Own.from (Own.and' (pure_own _) (Own.and' (cel_own _) (hcel_own _ _))) _) (ownFrom_below (Nat.le_refl _) (by omega)))
    (fun q => OwnFrom.and (Own.from (fun s A B row hs hg hr => by obtain ⟨p', x, r, hx, hC, hH⟩ := hs; exact ⟨p', x, r, hx, cel_own (β := Unit) _ () _ _ _ hC hg hr, hcel_own (β := Unit) _ _ () _ _ _ hH hg hr⟩) _) (ownFrom_below (Nat.le_refl _) (by omega)))
    ⟨⟨by simp, hc0, hh0⟩, hb0⟩
    (fun x a' W => ∃ Bx, (w.heap.size + 1 + 1 + 1 + 1 < Bx ∧ HBox Bx x.1.2 W) ∧ a' = { tmps := #[.pointer (some ⟨b, 0, none⟩), .int .i64 a, undef, .pointer (some ⟨w.heap.size, 0, none⟩), .pointer (some ⟨w.heap.size + 1, 0, none⟩), .pointer (some ⟨w.heap.size + 1 + 1, 0, none⟩), .pointer (some ⟨w.heap.size + 1 + 1 + 1, 0, none⟩), .pointer (some ⟨w.heap.size + 1 + 1 + 1 + 1, 0, none⟩), .int .i64 ((x.1.1 : Nat) : Int), .pointer (some ⟨Bx, 0, none⟩), undef, undef, undef, .pointer (some ⟨b, 0, none⟩), .func (.func 48) #[] #[.pointer (some ⟨w.heap.size + 1 + 1 + 1 + 1 + 1, 0, none⟩)], .int .i64 ((x.1.1 : Nat) : Int), .agg #[.int .i64 x.1.2.kind, .int .i64 x.1.2.n, .int .u64 x.1.2.w], undef, undef, undef, undef, undef, undef, undef, undef, undef, undef, undef, undef, undef, undef, undef, undef, undef, undef, undef, undef, undef, undef, undef, undef, undef, undef, undef, undef, undef, undef, undef, undef, undef, undef, undef, undef, undef, undef, undef, undef, undef, undef, undef, undef, undef, undef, undef, undef, undef], defers := [] })
    (fun x a' _ A B row hs hg hr => by obtain ⟨Bx, ⟨h1, h2⟩, h3⟩ := hs; exact ⟨Bx, ⟨h1, h2.kept hg (fun r e => (hr r e).2)⟩, h3⟩) ?assign ?body ?done ?stop
  case assign =>
    rintro l pre x W K ⟨⟨hne, hC, hH⟩, hB⟩ hK
    have hK1 := hK _ (W.alloc (.cells #[.int .i64 x.1.2.kind, .int .i64 x.1.2.n, .int .u64 x.1.2.w] 71)) ((KeepsOthers.alloc _ _).from _) (KpH.of_mod ((Mod.refl No W).alloc _) hB.size) ⟨⟨hne, hC.alloc _, hH.alloc _⟩, hB.alloc hB.size _⟩ ⟨W.heap.size, ⟨World.block_lt_of_cell? W ⟨w.heap.size + 1 + 1 + 1 + 1, 0, none⟩ (hC.get 3 rfl).1, HBox.new W _ _⟩, rfl⟩
    clear hK
    gi_wp2
    exact hK1
  case body =>
    rintro l pre x a' W hl ⟨rr, hrr⟩ ⟨⟨hne, hC, hH⟩, hB⟩ ⟨Bx, ⟨hBx, hb⟩, rfl⟩ hlen
    obtain ⟨⟨p, kd, nn, ww⟩, hx⟩ := x
    have hmem := Slb.heads_mem hx
    have hrg := Slb.hd_range HO.out (p : Int)
    rw [← hmem.2] at hrg
    have hps := HO.out.small _ hmem.1
    dsimp only at hb hrg hps ⊢
    obtain ⟨N, rfl⟩ := Int.eq_ofNat_of_zero_le hrg.2.2.2.2.1
    have HBX := Lib.hid hb
    obtain ⟨b0, b1, b2⟩ := hb
    dsimp only at b0 b1 b2
    have hc0' := (hC.get 0 rfl).1
    have HC := Lib.hid (And.intro hC (And.intro hH hB))
    have HNE := Lib.hid hne
    have hq0 : (p : Int) * 64 + 2 ≤ 2147483650 := by omega
    have hp0 : (0 : Int) ≤ (p : Int) := by omega
    clear hne hC hB hH hmem hlen hrr
    by_cases h1 : kd = 2
    · subst h1
      by_cases h2 : a = (p : Int) * 64 + 2
      · have d2 : (a == (p : Int) * 64 + 2) = true := beqT h2
        have HF := Lib.hid (show findF a (p, ⟨2, nn, (N : Int)⟩) = some (p, 0, ⟨2, nn, (N : Int)⟩) from if_pos ⟨rfl, h2⟩)
        clear h2
        have HZ := Lib.hid (sto_fin HC.out.1 HC.out.2.1 HC.out.2.2 (Nat.le_refl _) (Nat.le_refl _) (.int .i64 ((p : Nat) : Int)) (.int .i64 0) ⟨2, nn, (N : Int)⟩)
        gi_wp2_with fail
        have k11 := (HC.out.1.get 1 rfl).1
        have k12 := (HC.out.1.get 2 rfl).1
        have k14 := (HC.out.1.get 3 rfl).1
        have f11 := (HC.out.1.get 1 rfl).2
        have f12 := (HC.out.1.get 2 rfl).2
        have f14 := (HC.out.1.get 3 rfl).2
        obtain ⟨⟨k30, f30⟩, ⟨k31, f31⟩, ⟨k32, f32⟩⟩ := HC.out.2.1.cells
        dsimp only at k30 k31 k32
        have n1 : Bx ≠ w.heap.size + 1 := by omega
        have n2 : Bx ≠ w.heap.size + 1 + 1 := by omega
        have n3 : Bx ≠ w.heap.size + 1 + 1 + 1 := by omega
        have n4 : Bx ≠ w.heap.size + 1 + 1 + 1 + 1 := by omega
        have hmx : Tryd.prog.follows .mixedOrders = true := by kernel_rfl
        gi_region_with_o (fail)
        all_goals (
          clear k11 k12 k14 f11 f12 f14 k30 k31 k32 f30 f31 f32
          gi_wp2
          exact ⟨HZ.out.1.from _, ⟨_, _, (p, 0, ⟨2, nn, (N : Int)⟩), ⟨rfl, rfl, HNE.out, HF.out⟩, HZ.out.2.1, HZ.out.2.2.1⟩, HZ.out.2.2.2⟩)
      · have d2 : (a == (p : Int) * 64 + 2) = false := beqF h2
        have HR := Lib.hid (show findF a (p, ⟨2, nn, (N : Int)⟩) = none from by unfold findF; rw [if_neg (fun h => h2 h.2), if_pos (.inl (by simp))])
        clear h2
        gi_wp2
        have HQ := skip_snoc (x := ⟨_, hx⟩) HNE.out HR.out
        first
          | exact ⟨(KeepsOthers.refl _).from _, KpH.refl _ _ _, ⟨HQ, HC.out.1, HC.out.2.1⟩, HC.out.2.2⟩
          | exact ⟨(KeepsOthers.refl _).from _, KpH.refl _ _ _, ⟨fun a b h1 h2 => HQ ⟨(a, b), h1⟩ h2, HC.out.1, HC.out.2.1⟩, HC.out.2.2⟩
    · have d1 : (kd == 2) = false := beqF h1
      by_cases h3 : kd = 1
      · subst h3
        obtain ⟨q, hq⟩ : ∃ q, a.tdiv 64 = q := ⟨_, rfl⟩
        have hqb := tdiv_bound a
        rw [hq] at hqb
        have e64 : IntKind.i64.wrap (a.tdiv 64) = q := by rw [hq, IntKind.wrap_i64]; omega
        by_cases h4 : q = (p : Int)
        · subst h4
          have hsl := slots_call nn W
          have HF : Hid (findF a (p, ⟨1, nn, (N : Int)⟩) = (slotAt p ⟨1, nn, (N : Int)⟩ a).map fun k => (p, (k : Int), ⟨1, nn, (N : Int)⟩)) := by
            show _ = _
            unfold findF
            rw [if_neg (by simp), if_neg (by simp [hq])]
          have hN1 : 0 ≤ (cslots nn).1 ∧ (cslots nn).1 ≤ 31 := by
            by_cases hn : 0 ≤ nn ∧ nn < 8
            · have hr := csz_range (show nn.toNat < 8 by omega)
              rw [cslots_in hn.1 hn.2]
              dsimp only
              omega
            · rw [cslots_out hn]
              exact ⟨Int.le_refl 0, by show (0 : Int) ≤ 31; omega⟩
          obtain ⟨N1, hN1e⟩ : ∃ x, (cslots nn).1 = x := ⟨_, rfl⟩
          have HN1 := Lib.hid hN1e
          rw [hN1e] at hsl hN1
          obtain ⟨N2, hN2e⟩ : ∃ x, (cslots nn).2 = x := ⟨_, rfl⟩
          rw [hN2e] at hsl
          obtain ⟨hN10, hN11⟩ := hN1
          clear hN1e hN2e hqb hq h1
          gi_wp2_with fail
          refine ⟨trivial, ?_⟩
          refine (CallsIn.inRound l (callsIn_wide.2 hsl)).mono ?_
          rintro e w3 ⟨rfl, hm3⟩
          have HM3 := Lib.hid hm3
          clear hsl hm3 b0 b1 b2 hc0'
          gi_wp2_with fail
          gi_loopw [45] (fun iv wr => ∃ k : Nat, (k : Int) ≤ N1 ∧ iv = .int .i64 k ∧ Mod No W wr ∧ NoSlot p nn N a k) (fun iv _ => N1.toNat - (RowKit.intOf iv).toNat)
          case atStart => exact ⟨0, by omega, rfl, HM3.out, fun k' h => by omega⟩
          case round =>
            obtain ⟨k, hk, rfl, hm, hno⟩ := hrel
            obtain ⟨b0, b1, b2⟩ := HBX.out
            dsimp only at b0 b1 b2
            have b1' := hm.cell b1 (fun x => x)
            have b2' := hm.cell b2 (fun x => x)
            have hc0' := hm.cell (HC.out.1.get 0 rfl).1 (fun x => x)
            have HM := Lib.hid hm
            have HNO := Lib.hid hno
            clear hm hno b0 b1 b2 HM3
            have hmx : Tryd.prog.follows .mixedOrders = true := by kernel_rfl
            by_cases hlt : (k : Int) < N1
            · have hpl := fun W' => hplace_call (p : Int) nn (k : Int) hp0 (by omega) W'
              have hhs := fun W' => has_call N (by omega) (k : Int) W'
              obtain ⟨ad, had⟩ : ∃ x, hplace (p : Int) nn (k : Int) = x := ⟨_, rfl⟩
              obtain ⟨hv, hhv⟩ : ∃ x, Bt.has N (k : Int) = x := ⟨_, rfl⟩
              have HPL : Hid (∀ W', Calls Tryd.prog 26 #[.int .i64 (p : Int), .int .i64 nn, .int .i64 (k : Int)] W' fun e w' => e = .returned (.int .i64 ad) ∧ Mod No W' w') := fun W' => by
                have := hpl W'
                rw [had] at this
                exact this
              have HHS : Hid (∀ W', Calls Tryd.prog 25 #[.int .u64 (N : Int), .int .i64 (k : Int)] W' fun e w' => e = .returned (.bool hv) ∧ W' = w') := fun W' => by
                have := hhs W'
                rw [hhv] at this
                exact this
              have HAD := Lib.hid (And.intro had hhv)
              clear hpl hhs had hhv
              have hk0 : (0 : Int) ≤ (k : Int) := by omega
              by_cases hA : ad = a
              · subst hA
                cases hv with
                | true =>
                  gi_wp2_with fail
                  refine wp_region_round (S := fun w' => w'.cell? ⟨Bx, 1, none⟩ = some (.int .i64 nn) ∧ w'.cell? ⟨Bx, 2, none⟩ = some (.int .u64 (N : Int)) ∧ w'.cell? ⟨w.heap.size, 0, none⟩ = some (.int .i64 ad)) hmx (by kernel_rfl) (by rintro ⟨_, _, h⟩; exact h) ⟨b1', b2', hc0'⟩ (fun hHeld => ?_)
                  refine wpAnyH_takeD (i := 0) (v := ?_) (some 48) rfl (by rfl) (by kernel_rfl) (by kernel_rfl) (by kernel_rfl) (fun _ _ _ h => h) (Or.inl ⟨by rfl, ?_⟩) (by assumption) ?_
                  rotate_left
                  · intro w hSw
                    try dsimp only at hSw
                    go_simp
                    try with_reducible rfl
                  simp only [Act.put, List.setIfInBounds_toArray, List.set_cons_zero, List.set_cons_succ]
                  refine wpAnyH_takeD (i := 1) (v := ?_) (some 49) rfl (by rfl) (by kernel_rfl) (by kernel_rfl) (by kernel_rfl) (fun _ _ _ h => h) (Or.inl ⟨by rfl, ?_⟩) (by assumption) ?_
                  rotate_left
                  · intro w hSw
                    try dsimp only at hSw
                    go_simp
                    try with_reducible rfl
                  simp only [Act.put, List.setIfInBounds_toArray, List.set_cons_zero, List.set_cons_succ]
                  refine wpAnyH_takeD (i := 2) (v := ?_) (some 50) rfl (by rfl) (by kernel_rfl) (by kernel_rfl) (by kernel_rfl) (fun _ _ _ h => h) (Or.inl ⟨by rfl, ?_⟩) (by assumption) ?_
                  rotate_left
                  · intro w hSw
                    try dsimp only at hSw
                    go_simp
                    try with_reducible rfl
                  simp only [Act.put, List.setIfInBounds_toArray, List.set_cons_zero, List.set_cons_succ]
                  refine wpAnyH_takeD (i := 3) (v := ?_) (some 51) rfl (by rfl) (by kernel_rfl) (by kernel_rfl) (by kernel_rfl) (fun _ _ _ h => h) (Or.inl ⟨by rfl, ?_⟩) (by assumption) ?_
                  rotate_left
                  · intro w hSw
                    try dsimp only at hSw
                    go_simp
                    try with_reducible rfl
                  simp only [Act.put, List.setIfInBounds_toArray, List.set_cons_zero, List.set_cons_succ]
                  refine wpAnyH_takeD (i := 5) (v := ?_) (some 53) rfl (by rfl) (by kernel_rfl) (by kernel_rfl) (by kernel_rfl) (fun _ _ _ h => h) (Or.inl ⟨by rfl, ?_⟩) (by assumption) ?_
                  rotate_left
                  · intro w hSw
                    try dsimp only at hSw
                    go_simp
                    try with_reducible rfl
                  simp only [Act.put, List.setIfInBounds_toArray, List.set_cons_zero, List.set_cons_succ]
                  refine wpAnyH_ready (rs := [4]) (by kernel_rfl) (by simp) ?_
                  refine AllReadyH.cons rfl (fun K hK => ?_) AllReadyH.nil
                  go_simp
                  refine (HPL.out _).mono ?_
                  rintro e w4 ⟨rfl, hm4⟩
                  have HM4 := Lib.hid (HM.out.trans' ((Mod.refl No wr).drew.trans' hm4))
                  have HX := And.intro (hm4.cell b1' (fun x => x)) (And.intro (hm4.cell b2' (fun x => x)) (hm4.cell hc0' (fun x => x)))
                  clear hm4
                  refine hK.out _ _ HX (fun _ => ?_)
                  clear hK K hHeld
                  have hHeld := HX
                  clear HX
                  try simp only [Act.put, List.setIfInBounds_toArray, List.set_cons_zero, List.set_cons_succ]
                  have dA : (ad == ad) = true := beqT rfl
                  refine wpAnyH_takeD (i := 6) (v := ?_) (some 54) rfl (by rfl) (by kernel_rfl) (by kernel_rfl) (by kernel_rfl) (fun _ _ _ h => h) (Or.inl ⟨by rfl, ?_⟩) (by assumption) ?_
                  rotate_left
                  · intro w hSw
                    try dsimp only at hSw
                    go_simp
                    try with_reducible rfl
                  simp only [Act.put, List.setIfInBounds_toArray, List.set_cons_zero, List.set_cons_succ]
                  refine wpAnyH_takeD (i := 7) (v := ?_) (some 55) rfl (by rfl) (by kernel_rfl) (by kernel_rfl) (by kernel_rfl) (fun _ _ _ h => h) (Or.inl ⟨by rfl, ?_⟩) (by assumption) ?_
                  rotate_left
                  · intro w hSw
                    try dsimp only at hSw
                    go_simp
                    try with_reducible rfl
                  simp only [Act.put, List.setIfInBounds_toArray, List.set_cons_zero, List.set_cons_succ]
                  refine wpAnyH_takeD (i := 8) (v := ?_) (some 56) rfl (by rfl) (by kernel_rfl) (by kernel_rfl) (by kernel_rfl) (fun _ _ _ h => h) (Or.inl ⟨by rfl, ?_⟩) (by assumption) ?_
                  rotate_left
                  · intro w hSw
                    try dsimp only at hSw
                    go_simp
                    try with_reducible rfl
                  simp only [Act.put, List.setIfInBounds_toArray, List.set_cons_zero, List.set_cons_succ]
                  refine wpAnyH_takeD (i := 9) (v := ?_) (some 57) rfl (by rfl) (by kernel_rfl) (by kernel_rfl) (by kernel_rfl) (fun _ _ _ h => h) (Or.inl ⟨by rfl, ?_⟩) (by assumption) ?_
                  rotate_left
                  · intro w hSw
                    try dsimp only at hSw
                    go_simp
                    try with_reducible rfl
                  simp only [Act.put, List.setIfInBounds_toArray, List.set_cons_zero, List.set_cons_succ]
                  refine wpAnyH_takeD (i := 10) (v := ?_) (some 58) rfl (by rfl) (by kernel_rfl) (by kernel_rfl) (by kernel_rfl) (fun _ _ _ h => h) (Or.inl ⟨by rfl, ?_⟩) (by assumption) ?_
                  rotate_left
                  · intro w hSw
                    try dsimp only at hSw
                    go_simp
                    try with_reducible rfl
                  simp only [Act.put, List.setIfInBounds_toArray, List.set_cons_zero, List.set_cons_succ]
                  refine wpAnyH_ready (rs := [11]) (by kernel_rfl) (by simp) ?_
                  refine AllReadyH.cons rfl (fun K hK => ?_) AllReadyH.nil
                  go_simp
                  refine (HHS.out _).mono ?_
                  rintro e w5 ⟨rfl, rfl⟩
                  have HX := hHeld
                  refine hK.out _ _ HX (fun _ => ?_)
                  clear hK K hHeld
                  have hHeld := HX
                  clear HX
                  try simp only [Act.put, List.setIfInBounds_toArray, List.set_cons_zero, List.set_cons_succ]
                  refine wpAnyH_takeD (i := 12) (v := ?_) (some 60) rfl (by rfl) (by kernel_rfl) (by kernel_rfl) (by kernel_rfl) (fun _ _ _ h => h) (Or.inl ⟨by rfl, ?_⟩) (by assumption) ?_
                  rotate_left
                  · intro w hSw
                    try dsimp only at hSw
                    go_simp
                    try with_reducible rfl
                  simp only [Act.put, List.setIfInBounds_toArray, List.set_cons_zero, List.set_cons_succ]
                  refine wpAnyH_done (by kernel_rfl) ?_ _
                  have HF2 := Lib.hid (show findF ad (p, ⟨1, nn, (N : Int)⟩) = some (p, (k : Int), ⟨1, nn, (N : Int)⟩) from by
                    have hsa : slotAt p ⟨1, nn, (N : Int)⟩ ad = some k := by
                      unfold slotAt
                      refine find_range (by have := HN1.out; dsimp only; omega) ?_ fun k' hk' => ?_
                      · have := HAD.out
                        show (decide (hplace (p : Int) nn (k : Int) = ad) && Bt.has (N : Int).toNat (k : Int)) = true
                        rw [this.1, Int.toNat_natCast, this.2]
                        simp
                      · have := HNO.out k' hk'
                        exact this
                    rw [HF.out, hsa]
                    rfl)
                  have HB4 := Lib.hid (HBX.out.kept (Mod.grown0 HM4.out) (fun r e => by cases e))
                  have HC4 := Lib.hid (And.intro (HC.out.1.mod HM4.out) (And.intro (HC.out.2.1.mod HM4.out) (HC.out.2.2.trans (HM4.out.below _ HC.out.2.2.size (fun _ _ x => x)))))
                  have HZ := Lib.hid (sto_fin HC4.out.1 HC4.out.2.1 HC4.out.2.2 (Nat.le_refl _) (Nat.le_refl _) (.int .i64 ((p : Nat) : Int)) (.int .i64 (k : Int)) ⟨1, nn, (N : Int)⟩)
                  have HK4 := Lib.hid (KeepsOthers.of_mod HM4.out)
                  clear hHeld b1' b2' hc0' dA
                  gi_wp2_with fail
                  have k11 := (HC4.out.1.get 1 rfl).1
                  have k12 := (HC4.out.1.get 2 rfl).1
                  have k14 := (HC4.out.1.get 3 rfl).1
                  have f11 := (HC4.out.1.get 1 rfl).2
                  have f12 := (HC4.out.1.get 2 rfl).2
                  have f14 := (HC4.out.1.get 3 rfl).2
                  obtain ⟨⟨k30, f30⟩, ⟨k31, f31⟩, ⟨k32, f32⟩⟩ := HC4.out.2.1.cells
                  dsimp only at k30 k31 k32
                  refine wp_region_round (S := fun w' => w'.cell? ⟨Bx, 0, none⟩ = some (.int .i64 1) ∧ w'.cell? ⟨Bx, 1, none⟩ = some (.int .i64 nn) ∧ w'.cell? ⟨Bx, 2, none⟩ = some (.int .u64 (N : Int))) hmx (by kernel_rfl) (by rintro ⟨_, _, h⟩; exact h) HB4.out (fun hHeld => ?_)
                  refine wpAnyH_takeD (i := 0) (v := ?_) (some 61) rfl (by rfl) (by kernel_rfl) (by kernel_rfl) (by kernel_rfl) (fun _ _ _ h => h) (Or.inl ⟨by rfl, ?_⟩) (by assumption) ?_
                  rotate_left
                  · intro w hSw
                    try dsimp only at hSw
                    go_simp
                    try with_reducible rfl
                  simp only [Act.put, List.setIfInBounds_toArray, List.set_cons_zero, List.set_cons_succ]
                  refine wpAnyH_takeD (i := 1) (v := ?_) (some 62) rfl (by rfl) (by kernel_rfl) (by kernel_rfl) (by kernel_rfl) (fun _ _ _ h => h) (Or.inl ⟨by rfl, ?_⟩) (by assumption) ?_
                  rotate_left
                  · intro w hSw
                    try dsimp only at hSw
                    go_simp
                    try with_reducible rfl
                  simp only [Act.put, List.setIfInBounds_toArray, List.set_cons_zero, List.set_cons_succ]
                  refine wpAnyH_takeD (i := 2) (v := ?_) (some 63) rfl (by rfl) (by kernel_rfl) (by kernel_rfl) (by kernel_rfl) (fun _ _ _ h => h) (Or.inl ⟨by rfl, ?_⟩) (by assumption) ?_
                  rotate_left
                  · intro w hSw
                    try dsimp only at hSw
                    go_simp
                    try with_reducible rfl
                  simp only [Act.put, List.setIfInBounds_toArray, List.set_cons_zero, List.set_cons_succ]
                  have x3 := HBox.far (h := ⟨1, nn, (N : Int)⟩) (c := w.heap.size + 1) (HB4.out) (by omega) 0 (.int .i64 (p : Int))
                  have x4 := HBox.far (h := ⟨1, nn, (N : Int)⟩) (c := w.heap.size + 1 + 1) (x3) (by omega) 0 (.int .i64 (k : Int))
                  have x5 := HBox.far (h := ⟨1, nn, (N : Int)⟩) (c := w.heap.size + 1 + 1 + 1) (HBox.far (h := ⟨1, nn, (N : Int)⟩) (c := w.heap.size + 1 + 1 + 1) (HBox.far (h := ⟨1, nn, (N : Int)⟩) (c := w.heap.size + 1 + 1 + 1) (x4) (by omega) 0 (.int .i64 1)) (by omega) 1 (.int .i64 nn)) (by omega) 2 (.int .u64 (N : Int))
                  have x6 := HBox.far (h := ⟨1, nn, (N : Int)⟩) (c := w.heap.size + 1 + 1 + 1 + 1) (x5) (by omega) 0 (.bool true)
                  have HX3 := Lib.hid x3.dr
                  have HX4 := Lib.hid x4.dr
                  have HX5 := Lib.hid x5.dr
                  have HX6 := Lib.hid x6.dr
                  clear x3 x4 x5 x6
                  refine wpAnyH_ready (rs := [3]) (by kernel_rfl) (by simp) ?_
                  refine AllReadyH.cons rfl (fun K hK => ?_) AllReadyH.nil
                  go_simp
                  have hHeld := HX3.out
                  refine hK.out _ _ hHeld (fun _ => ?_)
                  clear hK K
                  refine wpAnyH_ready (rs := [4]) (by kernel_rfl) (by simp) ?_
                  refine AllReadyH.cons rfl (fun K hK => ?_) AllReadyH.nil
                  go_simp
                  have hHeld := HX4.out
                  refine hK.out _ _ hHeld (fun _ => ?_)
                  clear hK K
                  refine wpAnyH_ready (rs := [5]) (by kernel_rfl) (by simp) ?_
                  refine AllReadyH.cons rfl (fun K hK => ?_) AllReadyH.nil
                  go_simp
                  have hHeld := HX5.out
                  refine hK.out _ _ hHeld (fun _ => ?_)
                  clear hK K
                  refine wpAnyH_ready (rs := [6]) (by kernel_rfl) (by simp) ?_
                  refine AllReadyH.cons rfl (fun K hK => ?_) AllReadyH.nil
                  go_simp
                  have hHeld := HX6.out
                  refine hK.out _ _ hHeld (fun _ => ?_)
                  clear hK K
                  refine wpAnyH_done (by kernel_rfl) ?_ _
                  clear hHeld k11 k12 k14 f11 f12 f14 k30 k31 k32 f30 f31 f32
                  gi_wp2
                  exact ⟨(HK4.out.trans HZ.out.1).from _, ⟨_, _, (p, (k : Int), ⟨1, nn, (N : Int)⟩), ⟨rfl, rfl, HNE.out, HF2.out⟩, HZ.out.2.1, HZ.out.2.2.1⟩, HZ.out.2.2.2⟩
                | false =>
                  gi_wp2_with fail
                  refine wp_region_round (S := fun w' => w'.cell? ⟨Bx, 1, none⟩ = some (.int .i64 nn) ∧ w'.cell? ⟨Bx, 2, none⟩ = some (.int .u64 (N : Int)) ∧ w'.cell? ⟨w.heap.size, 0, none⟩ = some (.int .i64 ad)) hmx (by kernel_rfl) (by rintro ⟨_, _, h⟩; exact h) ⟨b1', b2', hc0'⟩ (fun hHeld => ?_)
                  refine wpAnyH_takeD (i := 0) (v := ?_) (some 48) rfl (by rfl) (by kernel_rfl) (by kernel_rfl) (by kernel_rfl) (fun _ _ _ h => h) (Or.inl ⟨by rfl, ?_⟩) (by assumption) ?_
                  rotate_left
                  · intro w hSw
                    try dsimp only at hSw
                    go_simp
                    try with_reducible rfl
                  simp only [Act.put, List.setIfInBounds_toArray, List.set_cons_zero, List.set_cons_succ]
                  refine wpAnyH_takeD (i := 1) (v := ?_) (some 49) rfl (by rfl) (by kernel_rfl) (by kernel_rfl) (by kernel_rfl) (fun _ _ _ h => h) (Or.inl ⟨by rfl, ?_⟩) (by assumption) ?_
                  rotate_left
                  · intro w hSw
                    try dsimp only at hSw
                    go_simp
                    try with_reducible rfl
                  simp only [Act.put, List.setIfInBounds_toArray, List.set_cons_zero, List.set_cons_succ]
                  refine wpAnyH_takeD (i := 2) (v := ?_) (some 50) rfl (by rfl) (by kernel_rfl) (by kernel_rfl) (by kernel_rfl) (fun _ _ _ h => h) (Or.inl ⟨by rfl, ?_⟩) (by assumption) ?_
                  rotate_left
                  · intro w hSw
                    try dsimp only at hSw
                    go_simp
                    try with_reducible rfl
                  simp only [Act.put, List.setIfInBounds_toArray, List.set_cons_zero, List.set_cons_succ]
                  refine wpAnyH_takeD (i := 3) (v := ?_) (some 51) rfl (by rfl) (by kernel_rfl) (by kernel_rfl) (by kernel_rfl) (fun _ _ _ h => h) (Or.inl ⟨by rfl, ?_⟩) (by assumption) ?_
                  rotate_left
                  · intro w hSw
                    try dsimp only at hSw
                    go_simp
                    try with_reducible rfl
                  simp only [Act.put, List.setIfInBounds_toArray, List.set_cons_zero, List.set_cons_succ]
                  refine wpAnyH_takeD (i := 5) (v := ?_) (some 53) rfl (by rfl) (by kernel_rfl) (by kernel_rfl) (by kernel_rfl) (fun _ _ _ h => h) (Or.inl ⟨by rfl, ?_⟩) (by assumption) ?_
                  rotate_left
                  · intro w hSw
                    try dsimp only at hSw
                    go_simp
                    try with_reducible rfl
                  simp only [Act.put, List.setIfInBounds_toArray, List.set_cons_zero, List.set_cons_succ]
                  refine wpAnyH_ready (rs := [4]) (by kernel_rfl) (by simp) ?_
                  refine AllReadyH.cons rfl (fun K hK => ?_) AllReadyH.nil
                  go_simp
                  refine (HPL.out _).mono ?_
                  rintro e w4 ⟨rfl, hm4⟩
                  have HM4 := Lib.hid (HM.out.trans' ((Mod.refl No wr).drew.trans' hm4))
                  have HX := And.intro (hm4.cell b1' (fun x => x)) (And.intro (hm4.cell b2' (fun x => x)) (hm4.cell hc0' (fun x => x)))
                  clear hm4
                  refine hK.out _ _ HX (fun _ => ?_)
                  clear hK K hHeld
                  have hHeld := HX
                  clear HX
                  try simp only [Act.put, List.setIfInBounds_toArray, List.set_cons_zero, List.set_cons_succ]
                  have dA : (ad == ad) = true := beqT rfl
                  refine wpAnyH_takeD (i := 6) (v := ?_) (some 54) rfl (by rfl) (by kernel_rfl) (by kernel_rfl) (by kernel_rfl) (fun _ _ _ h => h) (Or.inl ⟨by rfl, ?_⟩) (by assumption) ?_
                  rotate_left
                  · intro w hSw
                    try dsimp only at hSw
                    go_simp
                    try with_reducible rfl
                  simp only [Act.put, List.setIfInBounds_toArray, List.set_cons_zero, List.set_cons_succ]
                  refine wpAnyH_takeD (i := 7) (v := ?_) (some 55) rfl (by rfl) (by kernel_rfl) (by kernel_rfl) (by kernel_rfl) (fun _ _ _ h => h) (Or.inl ⟨by rfl, ?_⟩) (by assumption) ?_
                  rotate_left
                  · intro w hSw
                    try dsimp only at hSw
                    go_simp
                    try with_reducible rfl
                  simp only [Act.put, List.setIfInBounds_toArray, List.set_cons_zero, List.set_cons_succ]
                  refine wpAnyH_takeD (i := 8) (v := ?_) (some 56) rfl (by rfl) (by kernel_rfl) (by kernel_rfl) (by kernel_rfl) (fun _ _ _ h => h) (Or.inl ⟨by rfl, ?_⟩) (by assumption) ?_
                  rotate_left
                  · intro w hSw
                    try dsimp only at hSw
                    go_simp
                    try with_reducible rfl
                  simp only [Act.put, List.setIfInBounds_toArray, List.set_cons_zero, List.set_cons_succ]
                  refine wpAnyH_takeD (i := 9) (v := ?_) (some 57) rfl (by rfl) (by kernel_rfl) (by kernel_rfl) (by kernel_rfl) (fun _ _ _ h => h) (Or.inl ⟨by rfl, ?_⟩) (by assumption) ?_
                  rotate_left
                  · intro w hSw
                    try dsimp only at hSw
                    go_simp
                    try with_reducible rfl
                  simp only [Act.put, List.setIfInBounds_toArray, List.set_cons_zero, List.set_cons_succ]
                  refine wpAnyH_takeD (i := 10) (v := ?_) (some 58) rfl (by rfl) (by kernel_rfl) (by kernel_rfl) (by kernel_rfl) (fun _ _ _ h => h) (Or.inl ⟨by rfl, ?_⟩) (by assumption) ?_
                  rotate_left
                  · intro w hSw
                    try dsimp only at hSw
                    go_simp
                    try with_reducible rfl
                  simp only [Act.put, List.setIfInBounds_toArray, List.set_cons_zero, List.set_cons_succ]
                  refine wpAnyH_ready (rs := [11]) (by kernel_rfl) (by simp) ?_
                  refine AllReadyH.cons rfl (fun K hK => ?_) AllReadyH.nil
                  go_simp
                  refine (HHS.out _).mono ?_
                  rintro e w5 ⟨rfl, rfl⟩
                  have HX := hHeld
                  refine hK.out _ _ HX (fun _ => ?_)
                  clear hK K hHeld
                  have hHeld := HX
                  clear HX
                  try simp only [Act.put, List.setIfInBounds_toArray, List.set_cons_zero, List.set_cons_succ]
                  refine wpAnyH_takeD (i := 12) (v := ?_) (some 60) rfl (by rfl) (by kernel_rfl) (by kernel_rfl) (by kernel_rfl) (fun _ _ _ h => h) (Or.inl ⟨by rfl, ?_⟩) (by assumption) ?_
                  rotate_left
                  · intro w hSw
                    try dsimp only at hSw
                    go_simp
                    try with_reducible rfl
                  simp only [Act.put, List.setIfInBounds_toArray, List.set_cons_zero, List.set_cons_succ]
                  refine wpAnyH_done (by kernel_rfl) ?_ _
                  have HQ := Lib.hid (show (decide (hplace (p : Int) nn (k : Int) = ad) && Bt.has N (k : Int)) = false from by rw [HAD.out.2, Bool.and_false])
                  clear hHeld b1' b2' hc0' dA
                  gi_wp2
                  go_roundw
                  case rel =>
                    refine ⟨k + 1, by omega, by go_num, HM4.out, fun k' hk' => ?_⟩
                    rcases Nat.lt_or_ge k' k with h | h
                    · exact HNO.out k' h
                    · obtain rfl : k' = k := by omega
                      exact HQ.out
                  case measure => simp [RowKit.intOf]; omega
              · have dA : (ad == a) = false := beqF hA
                have HQ := Lib.hid (show (decide (hplace (p : Int) nn (k : Int) = a) && Bt.has N (k : Int)) = false from by rw [HAD.out.1, decide_eq_false hA, Bool.false_and])
                clear hA
                gi_wp2_with fail
                refine wp_region_round (S := fun w' => w'.cell? ⟨Bx, 1, none⟩ = some (.int .i64 nn) ∧ w'.cell? ⟨Bx, 2, none⟩ = some (.int .u64 (N : Int)) ∧ w'.cell? ⟨w.heap.size, 0, none⟩ = some (.int .i64 a)) hmx (by kernel_rfl) (by rintro ⟨_, _, h⟩; exact h) ⟨b1', b2', hc0'⟩ (fun hHeld => ?_)
                refine wpAnyH_takeD (i := 0) (v := ?_) (some 48) rfl (by rfl) (by kernel_rfl) (by kernel_rfl) (by kernel_rfl) (fun _ _ _ h => h) (Or.inl ⟨by rfl, ?_⟩) (by assumption) ?_
                rotate_left
                · intro w hSw
                  try dsimp only at hSw
                  go_simp
                  try with_reducible rfl
                simp only [Act.put, List.setIfInBounds_toArray, List.set_cons_zero, List.set_cons_succ]
                refine wpAnyH_takeD (i := 1) (v := ?_) (some 49) rfl (by rfl) (by kernel_rfl) (by kernel_rfl) (by kernel_rfl) (fun _ _ _ h => h) (Or.inl ⟨by rfl, ?_⟩) (by assumption) ?_
                rotate_left
                · intro w hSw
                  try dsimp only at hSw
                  go_simp
                  try with_reducible rfl
                simp only [Act.put, List.setIfInBounds_toArray, List.set_cons_zero, List.set_cons_succ]
                refine wpAnyH_takeD (i := 2) (v := ?_) (some 50) rfl (by rfl) (by kernel_rfl) (by kernel_rfl) (by kernel_rfl) (fun _ _ _ h => h) (Or.inl ⟨by rfl, ?_⟩) (by assumption) ?_
                rotate_left
                · intro w hSw
                  try dsimp only at hSw
                  go_simp
                  try with_reducible rfl
                simp only [Act.put, List.setIfInBounds_toArray, List.set_cons_zero, List.set_cons_succ]
                refine wpAnyH_takeD (i := 3) (v := ?_) (some 51) rfl (by rfl) (by kernel_rfl) (by kernel_rfl) (by kernel_rfl) (fun _ _ _ h => h) (Or.inl ⟨by rfl, ?_⟩) (by assumption) ?_
                rotate_left
                · intro w hSw
                  try dsimp only at hSw
                  go_simp
                  try with_reducible rfl
                simp only [Act.put, List.setIfInBounds_toArray, List.set_cons_zero, List.set_cons_succ]
                refine wpAnyH_takeD (i := 5) (v := ?_) (some 53) rfl (by rfl) (by kernel_rfl) (by kernel_rfl) (by kernel_rfl) (fun _ _ _ h => h) (Or.inl ⟨by rfl, ?_⟩) (by assumption) ?_
                rotate_left
                · intro w hSw
                  try dsimp only at hSw
                  go_simp
                  try with_reducible rfl
                simp only [Act.put, List.setIfInBounds_toArray, List.set_cons_zero, List.set_cons_succ]
                refine wpAnyH_ready (rs := [4]) (by kernel_rfl) (by simp) ?_
                refine AllReadyH.cons rfl (fun K hK => ?_) AllReadyH.nil
                go_simp
                refine (HPL.out _).mono ?_
                rintro e w4 ⟨rfl, hm4⟩
                have HM4 := Lib.hid (HM.out.trans' ((Mod.refl No wr).drew.trans' hm4))
                have HX := And.intro (hm4.cell b1' (fun x => x)) (And.intro (hm4.cell b2' (fun x => x)) (hm4.cell hc0' (fun x => x)))
                clear hm4
                refine hK.out _ _ HX (fun _ => ?_)
                clear hK K hHeld
                have hHeld := HX
                clear HX
                try simp only [Act.put, List.setIfInBounds_toArray, List.set_cons_zero, List.set_cons_succ]
                refine wpAnyH_takeD (i := 6) (v := ?_) (some 54) rfl (by rfl) (by kernel_rfl) (by kernel_rfl) (by kernel_rfl) (fun _ _ _ h => h) (Or.inl ⟨by rfl, ?_⟩) (by assumption) ?_
                rotate_left
                · intro w hSw
                  try dsimp only at hSw
                  go_simp
                  try with_reducible rfl
                simp only [Act.put, List.setIfInBounds_toArray, List.set_cons_zero, List.set_cons_succ]
                refine wpAnyH_takeD (i := 7) (v := ?_) (some 55) rfl (by rfl) (by kernel_rfl) (by kernel_rfl) (by kernel_rfl) (fun _ _ _ h => h) (Or.inl ⟨by rfl, ?_⟩) (by assumption) ?_
                rotate_left
                · intro w hSw
                  try dsimp only at hSw
                  go_simp
                  try with_reducible rfl
                simp only [Act.put, List.setIfInBounds_toArray, List.set_cons_zero, List.set_cons_succ]
                refine wpAnyH_takeD (i := 8) (v := undef) (some 56) rfl (by rfl) (by kernel_rfl) (by kernel_rfl) (by kernel_rfl) (fun _ _ _ h => h) (Or.inr ⟨by rfl, rfl⟩) (by assumption) ?_
                simp only [Act.put, List.setIfInBounds_toArray, List.set_cons_zero, List.set_cons_succ]
                refine wpAnyH_takeD (i := 9) (v := undef) (some 57) rfl (by rfl) (by kernel_rfl) (by kernel_rfl) (by kernel_rfl) (fun _ _ _ h => h) (Or.inr ⟨by rfl, rfl⟩) (by assumption) ?_
                simp only [Act.put, List.setIfInBounds_toArray, List.set_cons_zero, List.set_cons_succ]
                refine wpAnyH_takeD (i := 10) (v := undef) (some 58) rfl (by rfl) (by kernel_rfl) (by kernel_rfl) (by kernel_rfl) (fun _ _ _ h => h) (Or.inr ⟨by rfl, rfl⟩) (by assumption) ?_
                simp only [Act.put, List.setIfInBounds_toArray, List.set_cons_zero, List.set_cons_succ]
                refine wpAnyH_takeD (i := 11) (v := undef) (some 59) rfl (by rfl) (by kernel_rfl) (by kernel_rfl) (by kernel_rfl) (fun _ _ _ h => h) (Or.inr ⟨by rfl, rfl⟩) (by assumption) ?_
                simp only [Act.put, List.setIfInBounds_toArray, List.set_cons_zero, List.set_cons_succ]
                refine wpAnyH_takeD (i := 12) (v := ?_) (some 60) rfl (by rfl) (by kernel_rfl) (by kernel_rfl) (by kernel_rfl) (fun _ _ _ h => h) (Or.inl ⟨by rfl, ?_⟩) (by assumption) ?_
                rotate_left
                · intro w hSw
                  try dsimp only at hSw
                  go_simp
                  try with_reducible rfl
                simp only [Act.put, List.setIfInBounds_toArray, List.set_cons_zero, List.set_cons_succ]
                refine wpAnyH_done (by kernel_rfl) ?_ _
                clear hHeld b1' b2' hc0' dA
                gi_wp2
                go_roundw
                case rel =>
                  refine ⟨k + 1, by omega, by go_num, HM4.out, fun k' hk' => ?_⟩
                  rcases Nat.lt_or_ge k' k with h | h
                  · exact HNO.out k' h
                  · obtain rfl : k' = k := by omega
                    exact HQ.out
                case measure => simp [RowKit.intOf]; omega
            · have HR := Lib.hid (show findF a (p, ⟨1, nn, (N : Int)⟩) = none from by
                have hsa : slotAt p ⟨1, nn, (N : Int)⟩ a = none := by
                  unfold slotAt
                  refine List.find?_eq_none.2 fun k' hk' => ?_
                  have hk2 := List.mem_range.1 hk'
                  dsimp only at hk2
                  rw [HN1.out] at hk2
                  have := HNO.out k' (by omega)
                  show ¬ (decide (hplace (p : Int) nn (k' : Int) = a) && Bt.has (N : Int).toNat (k' : Int)) = true
                  rw [Int.toNat_natCast, this]
                  decide
                rw [HF.out, hsa]
                rfl)
              have HC4 := Lib.hid (And.intro (HC.out.1.mod HM.out) (And.intro (HC.out.2.1.mod HM.out) (HC.out.2.2.trans (HM.out.below _ HC.out.2.2.size (fun _ _ x => x)))))
              have HK4 := Lib.hid (And.intro (KeepsOthers.of_mod HM.out) (KpH.of_mod (B0 := w.heap.size) (B2 := w.heap.size + 1 + 1 + 1 + 1 + 1) HM.out HC.out.2.2.size))
              clear b1' b2' hc0'
              gi_wp2
              have HQ := skip_snoc (x := ⟨_, hx⟩) HNE.out HR.out
              first
                | exact ⟨HK4.out.1.from _, HK4.out.2, ⟨HQ, HC4.out.1, HC4.out.2.1⟩, HC4.out.2.2⟩
                | exact ⟨HK4.out.1.from _, HK4.out.2, ⟨fun a b h1 h2 => HQ ⟨(a, b), h1⟩ h2, HC4.out.1, HC4.out.2.1⟩, HC4.out.2.2⟩
        · have d4 : (q != (p : Int)) = true := bneT h4
          have HR := Lib.hid (show findF a (p, ⟨1, nn, (N : Int)⟩) = none from by unfold findF; rw [if_neg (by simp), if_pos (.inr (by rw [hq]; exact h4))])
          clear h4 hqb hq
          gi_wp2
          have HQ := skip_snoc (x := ⟨_, hx⟩) HNE.out HR.out
          first
            | exact ⟨(KeepsOthers.refl _).from _, KpH.refl _ _ _, ⟨HQ, HC.out.1, HC.out.2.1⟩, HC.out.2.2⟩
            | exact ⟨(KeepsOthers.refl _).from _, KpH.refl _ _ _, ⟨fun a b h1 h2 => HQ ⟨(a, b), h1⟩ h2, HC.out.1, HC.out.2.1⟩, HC.out.2.2⟩
      · have d3 : (kd != 1) = true := bneT h3
        have HR := Lib.hid (show findF a (p, ⟨kd, nn, (N : Int)⟩) = none from by unfold findF; rw [if_neg (fun h => h1 h.1), if_pos (.inl h3)])
        clear h1 h3
        gi_wp2
        have HQ := skip_snoc (x := ⟨_, hx⟩) HNE.out HR.out
        first
          | exact ⟨(KeepsOthers.refl _).from _, KpH.refl _ _ _, ⟨HQ, HC.out.1, HC.out.2.1⟩, HC.out.2.2⟩
          | exact ⟨(KeepsOthers.refl _).from _, KpH.refl _ _ _, ⟨fun a b h1 h2 => HQ ⟨(a, b), h1⟩ h2, HC.out.1, HC.out.2.1⟩, HC.out.2.2⟩
  case done =>
    rintro D xs W hD hxs ⟨⟨hne, hC, hH⟩, hB⟩ hK
    have hsp : S.find a = none := by
      unfold Slb.find
      rw [← hxs]
      refine List.findSome?_eq_none_iff.2 fun y hy => ?_
      obtain ⟨z, hz, rfl⟩ := List.mem_map.1 hy
      exact hne z hz
    have hz := sto_fin0 hC hH hB (Nat.le_refl _) (.int .i64 0) (.int .i64 0) ⟨0, 0, 0⟩ (.bool false)
    have hK' := hz.1.same D _ hK rfl
    have hC' := hz.2.1.put hK' rfl (.deferred none)
    have hH' := hz.2.2.1.put hK' rfl (.deferred none)
    have hB2 := hz.2.2.2.trans (belowK_b (w := w) (Nat.le_refl _) _ D _ (.deferred none) (by omega) hK' rfl rfl)
    have k11 := (hC.get 1 rfl).1
    have k12 := (hC.get 2 rfl).1
    have k14 := (hC.get 3 rfl).1
    have f11 := (hC.get 1 rfl).2
    have f12 := (hC.get 2 rfl).2
    have f14 := (hC.get 3 rfl).2
    obtain ⟨⟨k30, f30⟩, ⟨k31, f31⟩, ⟨k32, f32⟩⟩ := hH.cells
    dsimp only at k30 k31 k32
    have HH := Lib.hid (And.intro hK' (And.intro hB2 hsp))
    have HR := Lib.hid (And.intro hC' hH')
    clear hC' hH' hC hH hK' hB2 hsp hxs hz hK hB hne
    gi_wp2
    refine ⟨by simp, .inl ⟨_, _, rfl, run_takeDeferred HH.out.1, ?_⟩⟩
    have q1 := (HR.out.1.get 1 rfl).1
    have q2 := (HR.out.1.get 2 rfl).1
    have q4 := (HR.out.1.get 3 rfl).1
    obtain ⟨⟨q30, _⟩, ⟨q31, _⟩, ⟨q32, _⟩⟩ := HR.out.2.cells
    unfold stoW at q1 q2 q4 q30 q31 q32
    refine ⟨findA none, ?_, by rw [HH.out.2.2], HH.out.2.1⟩
    simp [results, Tryd.f27, go_sem, q1, q2, q4, q30, q31, q32, findA, hdV]
  case stop =>
    rintro D q pre W hD ⟨k, hk⟩ ⟨⟨pre', x, r, ⟨rfl, rfl, hne, hr⟩, hC, hH⟩, hB⟩ hK
    have hsp : S.find a = some r := by
      unfold Slb.find
      rw [List.map_append] at hk
      exact findSome_split hk (fun y hy => by obtain ⟨z, hz, rfl⟩ := List.mem_map.1 hy; exact hne z hz) hr
    have hC' := hC.put hK rfl (.deferred none)
    have hH' := hH.put hK rfl (.deferred none)
    have hB2 := hB.trans (belowK_b (w := w) (Nat.le_refl _) W D _ (.deferred none) (by omega) hK rfl rfl)
    have q1 := (hC'.get 1 rfl).1
    have q2 := (hC'.get 2 rfl).1
    have q4 := (hC'.get 3 rfl).1
    obtain ⟨⟨q30, _⟩, ⟨q31, _⟩, ⟨q32, _⟩⟩ := hH'.cells
    have HH := Lib.hid (And.intro hsp hB2)
    clear hsp hC' hH' hC hH hk hne hr hB2 hB
    gi_wp2
    refine ⟨by simp, .inl ⟨_, _, rfl, run_takeDeferred hK, ?_⟩⟩
    refine ⟨findA (some r), ?_, by rw [HH.out.1], HH.out.2⟩
    simp [results, Tryd.f27, go_sem, q1, q2, q4, q30, q31, q32, findA, hdV]

theorem Sep.hFind (h : Sep F0 w0 w Ps) (i j : Nat) {b s : Nat} {S : Slb} (hi : Ps[i]? = some (hpAt b s)) (hj : Ps[j]? = some (slabR s S)) (a : Int) (a0 : -9223372036854775808 ≤ a) (a1 : a ≤ 9223372036854775807) :
    Calls Tryd.prog 27 #[.pointer (some ⟨b, 0, none⟩), .int .i64 a] w fun e w' => e = .returned (findA (S.find a)) ∧ Mod No w w' :=
  (find_in h i j hi hj a a0 a1).mono fun _ _ h => ⟨h.1, Mod.of_below h.2 _⟩
end Go.Proofs.YtfmkiioahnphbaaDoor

namespace Go.Proofs.YtfmkiioahnphbaaDoor
open Go Go.RowKit

variable {F0 : Nat → Prop} {w0 w : World} {Ps : List Res}

namespace Slb
/-- The first words of a run are 0. -/
def clr (S : Slb) (a : Int) : Nat → Slb
  | 0 => S
  | n + 1 => ((clr S a n).write (a + n) 0).2
/-- A slot of a page is taken. -/
def take (S : Slb) (p k : Int) : Int × Slb :=
  (hplace p (S.hd p).n k, (S.put p ⟨(S.hd p).kind, (S.hd p).n, (Bt.set (S.hd p).w.toNat k : Nat)⟩).clr (hplace p (S.hd p).n k) (csize (S.hd p).n).1.toNat)
/-- A slot of a page is free; a page with none goes. -/
def leave (S : Slb) (p k : Int) : Slb :=
  if (S.hd p).kind = 1 ∧ ((Bt.clear (S.hd p).w.toNat k : Nat) : Int) = 0 then ((S.put p ⟨(S.hd p).kind, (S.hd p).n, (Bt.clear (S.hd p).w.toNat k : Nat)⟩).release p 1).2 else S.put p ⟨(S.hd p).kind, (S.hd p).n, (Bt.clear (S.hd p).w.toNat k : Nat)⟩
end Slb

set_option maxRecDepth 100000 in
set_option maxHeartbeats 1000000 in
theorem hclear_call (h : Sep F0 w0 w Ps) (i j : Nat) (hij : i ≠ j) {b s : Nat} {S : Slb} (hi : Ps[i]? = some (hpAt b s)) (hj : Ps[j]? = some (slabR s S)) (a : Int) (a0 : 0 ≤ a) (a1 : a ≤ 1099511627776) (n : Nat) (hn : n ≤ 1000000) :
    Calls Tryd.prog 66 #[.pointer (some ⟨b, 0, none⟩), .int .i64 a, .int .i64 n] w fun e w' => (∃ v, e = .returned v) ∧ Sep F0 w0 w' (Ps.set j (slabR s (S.clr a n))) := by
  have hjl := (List.getElem?_eq_some_iff.1 hj).1
  have HI := Lib.hid (show ∀ R : Res, (Ps.set j R)[i]? = some (hpAt b s) from fun R => by rw [List.getElem?_set_ne (Ne.symm hij)]; exact hi)
  have HJ := Lib.hid (show ∀ R : Res, (Ps.set j R)[j]? = some R from fun R => List.getElem?_set_self hjl)
  have HX := Lib.hid (show Sep F0 w0 w (Ps.set j (slabR s (S.clr a 0))) from by
    have : Ps.set j (slabR s S) = Ps := by
      apply List.ext_getElem?
      intro k
      by_cases hk : j = k
      · subst hk; rw [List.getElem?_set_self hjl, hj]
      · rw [List.getElem?_set_ne hk]
    show Sep F0 w0 w (Ps.set j (slabR s S))
    rw [this]; exact h)
  clear h hi hj hij hjl
  go_enter Tryd.func66, Tryd.ntmps66
  go_wp2_with fail
  go_loopw [8] (fun iv wr => ∃ k : Nat, k ≤ n ∧ iv = .int .i64 k ∧ Sep F0 w0 wr (Ps.set j (slabR s (S.clr a k)))) (fun iv _ => n - (RowKit.intOf iv).toNat)
  case atStart => exact ⟨0, Nat.zero_le _, rfl, HX.out⟩
  case round =>
    obtain ⟨k, hk, rfl, h⟩ := hrel
    clear HX
    by_cases hlt : k < n
    · have hlt' : (k : Int) < (n : Int) := by omega
      have hk0 : (0 : Int) ≤ (k : Int) := by omega
      have hak : a + (k : Int) ≤ 1099512627776 := by omega
      have c0 := (h.cell i (HI.out _) 0 (v := .pointer (some ⟨s, 0, none⟩)) rfl).1
      have hc := h.sWrite j (HJ.out _) (a + (k : Int)) 0 (by omega) (by omega) (er := ((S.clr a k).write (a + (k : Int)) 0).1) (S' := ((S.clr a k).write (a + (k : Int)) 0).2) rfl
      rw [List.set_set] at hc
      have hc2 : Calls Tryd.prog 7 #[.pointer (some ⟨s, 0, none⟩), .int .i64 (a + (k : Int)), .int .u64 0] wr fun e w' => e = .returned (.int .i64 ((S.clr a k).write (a + (k : Int)) 0).1) ∧ Sep F0 w0 w' (Ps.set j (slabR s (S.clr a (k + 1)))) := hc
      generalize ((S.clr a k).write (a + (k : Int)) 0).1 = er at *
      clear h hc
      go_wp2_with fail
      refine hc2.mono ?_
      rintro e w1 ⟨rfl, h1⟩
      have H1 := Lib.hid h1
      clear h1 hc2
      go_wp2
      go_roundw
      case rel => exact ⟨k + 1, by omega, by go_num, H1.out⟩
      case measure => simp [RowKit.intOf]; omega
    · obtain rfl : n = k := by omega
      have H1 := Lib.hid h
      clear h hlt
      go_wp2
      go_end0
      exact ⟨⟨_, rfl⟩, H1.out⟩

theorem setSame {Ps : List Res} {j : Nat} {R : Res} (h : Ps[j]? = some R) : Ps.set j R = Ps := by
  apply List.ext_getElem?
  intro k
  by_cases hk : j = k
  · subst hk; rw [List.getElem?_set_self (List.getElem?_eq_some_iff.1 h).1, h]
  · rw [List.getElem?_set_ne hk]
theorem getLast' {Ps : List Res} {R : Res} : (Ps ++ [R])[Ps.length]? = some R := by
  rw [List.getElem?_append_right (Nat.le_refl _), Nat.sub_self]; rfl

set_option maxRecDepth 100000 in
set_option maxHeartbeats 2000000 in
theorem htake_call (h : Sep F0 w0 w Ps) (i j : Nat) (hij : i ≠ j) {b s : Nat} {S : Slb} (hi : Ps[i]? = some (hpAt b s)) (hj : Ps[j]? = some (slabR s S)) (p k : Int) (p0 : 0 ≤ p) (p1 : p ≤ 33554432) :
    Calls Tryd.prog 40 #[.pointer (some ⟨b, 0, none⟩), .int .i64 p, .int .i64 k] w fun e w' => e = .returned (.int .i64 (S.take p k).1) ∧ Sep F0 w0 w' (Ps.set j (slabR s (S.take p k).2)) := by
  have hjl := (List.getElem?_eq_some_iff.1 hj).1
  have hrg := Slb.hd_range (h.sOk j hj) p
  have hg := hget_call h i j hi hj p p0 p1
  have hpr := cplace_range (S.hd p).n k
  have hcs : 0 ≤ (csize (S.hd p).n).1 ∧ (csize (S.hd p).n).1 ≤ 28 := by
    by_cases hn : 0 ≤ (S.hd p).n ∧ (S.hd p).n < 8
    · have hr := csz_range (show (S.hd p).n.toNat < 8 by omega)
      rw [csize_in hn.1 hn.2]
      dsimp only
      omega
    · rw [csize_out hn]
      exact ⟨Int.le_refl 0, by show (0 : Int) ≤ 28; omega⟩
  have HT := Lib.hid (show S.take p k = (hplace p (S.hd p).n k, (S.put p ⟨(S.hd p).kind, (S.hd p).n, (Bt.set (S.hd p).w.toNat k : Nat)⟩).clr (hplace p (S.hd p).n k) (csize (S.hd p).n).1.toNat) from rfl)
  have hpl : 0 ≤ hplace p (S.hd p).n k ∧ hplace p (S.hd p).n k ≤ 1099511627776 := by unfold hplace; omega
  obtain ⟨kd, hkd⟩ : ∃ x, (S.hd p).kind = x := ⟨_, rfl⟩
  obtain ⟨nn, hnn⟩ : ∃ x, (S.hd p).n = x := ⟨_, rfl⟩
  obtain ⟨ww, hww⟩ : ∃ x, (S.hd p).w = x := ⟨_, rfl⟩
  rw [hkd, hnn, hww] at hg hrg HT
  rw [hnn] at hcs hpl
  obtain ⟨N, rfl⟩ := Int.eq_ofNat_of_zero_le hrg.2.2.2.2.1
  rw [Int.toNat_natCast] at HT
  have hu := Bt.set_lt (N := N) (by omega) k
  have hst := fun W => set_call N (by omega) k W
  obtain ⟨ad, had⟩ : ∃ x, hplace p nn k = x := ⟨_, rfl⟩
  obtain ⟨sz, hsz⟩ : ∃ x : Nat, (csize nn).1 = x := ⟨(csize nn).1.toNat, by omega⟩
  rw [had, hsz, Int.toNat_natCast] at HT
  have HPL := Lib.hid (show ∀ W, Calls Tryd.prog 26 #[.int .i64 p, .int .i64 nn, .int .i64 k] W fun e w' => e = .returned (.int .i64 ad) ∧ Mod No W w' from fun W => by have := hplace_call p nn k p0 p1 W; rw [had] at this; exact this)
  have HSZ := Lib.hid (show ∀ W, Calls Tryd.prog 28 #[.int .i64 nn] W fun e w' => e = .returned (.tuple #[.int .i64 (sz : Nat), .int .i64 (csize nn).2]) ∧ Mod No W w' from fun W => by have := size_call nn W; rw [hsz] at this; exact this)
  rw [had] at hpl
  have hsz28 : sz ≤ 28 := by omega
  obtain ⟨sz2, hsz2⟩ : ∃ x, (csize nn).2 = x := ⟨_, rfl⟩
  rw [hsz2] at HSZ
  have HST := Lib.hid hst
  have HH := Lib.hid h
  have HI := Lib.hid hi
  have HJ := Lib.hid hj
  have HRG := Lib.hid (And.intro hrg (And.intro hpl hu))
  rw [HT.out]
  clear h hkd hnn hww hst had hsz hsz2 hi hj hpr hcs hrg hpl hu HT
  go_enter Tryd.func40, Tryd.ntmps40
  go_wp2_with fail
  refine hg.mono ?_
  rintro e w1 ⟨rfl, hm1⟩
  have hB := (HH.out.more hm1).pushCells #[.int .i64 kd, .int .i64 nn, .int .u64 (N : Int)] 71
  obtain ⟨o, ho⟩ : ∃ o, w1.heap.size = o := ⟨_, rfl⟩
  rw [ho] at hB
  clear hg hm1
  go_wp2_with fail
  refine (HST.out _).mono ?_
  rintro e w' ⟨rfl, rfl⟩
  obtain ⟨W, hW⟩ : ∃ x, w1.alloc (.cells #[.int .i64 kd, .int .i64 nn, .int .u64 (N : Int)] 71) = x := ⟨_, rfl⟩
  rw [hW] at hB ⊢
  have k0 := (hB.cell _ getLast' 0 (v := .int .i64 kd) rfl).1
  have k1 := (hB.cell _ getLast' 1 (v := .int .i64 nn) rfl).1
  have k2 := (hB.cell _ getLast' 2 (v := .int .u64 (N : Int)) rfl).1
  have f2 := (hB.cell _ getLast' 2 (v := .int .u64 (N : Int)) rfl).2
  have hB2 := hB.set _ getLast' 2 (.int .u64 ((Bt.set N k : Nat) : Int))
  rw [List.set_append_right _ _ (Nat.le_refl _), Nat.sub_self] at hB2
  have hB2 : Sep F0 w0 (W.setCell ⟨o, 2, none⟩ (.int .u64 ((Bt.set N k : Nat) : Int))) (Ps ++ [cellsAt o #[.int .i64 kd, .int .i64 nn, .int .u64 ((Bt.set N k : Nat) : Int)] 71]) := hB2
  clear hB hW ho
  have hp := hput_call hB2 i j hij (getApp HI.out) (getApp HJ.out) p p0 p1 ⟨kd, nn, ((Bt.set N k : Nat) : Int)⟩ HRG.out.1.1 HRG.out.1.2.1 HRG.out.1.2.2.1 HRG.out.1.2.2.2.1 (by show (0 : Int) ≤ ((Bt.set N k : Nat) : Int); omega) (by have := HRG.out.2.2; show ((Bt.set N k : Nat) : Int) < _; omega)
  dsimp only at hp
  rw [List.set_append_left _ _ hjl] at hp
  obtain ⟨u, hu⟩ : ∃ x, ((Bt.set N k : Nat) : Int) = x := ⟨_, rfl⟩
  have HU := Lib.hid hu
  rw [hu] at hp hB2 HST ⊢
  clear hu
  go_wp2_with fail
  refine hp.mono ?_
  rintro e w4 ⟨⟨v, rfl⟩, h4⟩
  obtain ⟨S1, hS1⟩ : ∃ x, S.put p ⟨kd, nn, u⟩ = x := ⟨_, rfl⟩
  rw [hS1] at h4
  have hlb : ∀ R : Res, (Ps.set j R ++ [cellsAt o #[.int .i64 kd, .int .i64 nn, .int .u64 u] 71])[Ps.length]? = some (cellsAt o #[.int .i64 kd, .int .i64 nn, .int .u64 u] 71) := fun R => by
    rw [List.getElem?_append_right (by simp), List.length_set, Nat.sub_self]; rfl
  have q1 := (h4.cell _ (hlb _) 1 (v := .int .i64 nn) rfl).1
  have H4 := Lib.hid (Sep.left h4)
  clear hp hB2 k0 k1 k2 f2 h4 hlb
  have HS1 := Lib.hid hS1
  clear hS1
  go_wp2_with fail
  refine (HSZ.out _).mono ?_
  rintro e w5 ⟨rfl, hm5⟩
  have q1 := hm5.cell q1 (fun x => x)
  have H5 := Lib.hid (H4.out.more hm5)
  clear hm5 H4
  go_wp2_with fail
  refine (HPL.out _).mono ?_
  rintro e w6 ⟨rfl, hm6⟩
  have H6 := Lib.hid (H5.out.more hm6)
  clear hm6 H5 q1
  have hcl := H6.out
  have hcl := hclear_call hcl i j hij (by rw [List.getElem?_set_ne (Ne.symm hij)]; exact HI.out) (List.getElem?_set_self hjl) ad HRG.out.2.1.1 HRG.out.2.1.2 sz (by omega)
  rw [List.set_set] at hcl
  clear H6
  go_wp2_with fail
  refine hcl.mono ?_
  rintro e w7 ⟨⟨v, rfl⟩, h7⟩
  have H7 := Lib.hid h7
  clear hcl h7
  go_wp2
  go_ret
  exact ⟨rfl, by rw [HU.out, HS1.out]; exact H7.out⟩
set_option maxRecDepth 100000 in
set_option maxHeartbeats 2000000 in
theorem hleave_call (h : Sep F0 w0 w Ps) (i j : Nat) (hij : i ≠ j) {b s : Nat} {S : Slb} (hi : Ps[i]? = some (hpAt b s)) (hj : Ps[j]? = some (slabR s S)) (p k : Int) (p0 : 0 ≤ p) (p1 : p ≤ 33554432) :
    Calls Tryd.prog 42 #[.pointer (some ⟨b, 0, none⟩), .int .i64 p, .int .i64 k] w fun e w' => (∃ v, e = .returned v) ∧ Sep F0 w0 w' (Ps.set j (slabR s (S.leave p k))) := by
  have hjl := (List.getElem?_eq_some_iff.1 hj).1
  have hrg := Slb.hd_range (h.sOk j hj) p
  have hg := hget_call h i j hi hj p p0 p1
  have HT := Lib.hid (show S.leave p k = (if (S.hd p).kind = 1 ∧ ((Bt.clear (S.hd p).w.toNat k : Nat) : Int) = 0 then ((S.put p ⟨(S.hd p).kind, (S.hd p).n, (Bt.clear (S.hd p).w.toNat k : Nat)⟩).release p 1).2 else S.put p ⟨(S.hd p).kind, (S.hd p).n, (Bt.clear (S.hd p).w.toNat k : Nat)⟩) from rfl)
  obtain ⟨kd, hkd⟩ : ∃ x, (S.hd p).kind = x := ⟨_, rfl⟩
  obtain ⟨nn, hnn⟩ : ∃ x, (S.hd p).n = x := ⟨_, rfl⟩
  obtain ⟨ww, hww⟩ : ∃ x, (S.hd p).w = x := ⟨_, rfl⟩
  rw [hkd, hnn, hww] at hg hrg HT
  obtain ⟨N, rfl⟩ := Int.eq_ofNat_of_zero_le hrg.2.2.2.2.1
  rw [Int.toNat_natCast] at HT
  have hu := Bt.clear_lt (N := N) (by omega) k
  have hst := fun W => clear_call N (by omega) k W
  have HST := Lib.hid hst
  have HH := Lib.hid h
  have HI := Lib.hid hi
  have HJ := Lib.hid hj
  have HRG := Lib.hid (And.intro hrg hu)
  clear h hkd hnn hww hst hi hj hrg hu
  go_enter Tryd.func42, Tryd.ntmps42
  go_wp2_with fail
  refine hg.mono ?_
  rintro e w1 ⟨rfl, hm1⟩
  have hB := (HH.out.more hm1).pushCells #[.int .i64 kd, .int .i64 nn, .int .u64 (N : Int)] 71
  obtain ⟨o, ho⟩ : ∃ o, w1.heap.size = o := ⟨_, rfl⟩
  rw [ho] at hB
  clear hg hm1
  go_wp2_with fail
  refine (HST.out _).mono ?_
  rintro e w' ⟨rfl, rfl⟩
  obtain ⟨W, hW⟩ : ∃ x, w1.alloc (.cells #[.int .i64 kd, .int .i64 nn, .int .u64 (N : Int)] 71) = x := ⟨_, rfl⟩
  rw [hW] at hB ⊢
  have k0 := (hB.cell _ getLast' 0 (v := .int .i64 kd) rfl).1
  have k1 := (hB.cell _ getLast' 1 (v := .int .i64 nn) rfl).1
  have k2 := (hB.cell _ getLast' 2 (v := .int .u64 (N : Int)) rfl).1
  have f2 := (hB.cell _ getLast' 2 (v := .int .u64 (N : Int)) rfl).2
  have hB2 := hB.set _ getLast' 2 (.int .u64 ((Bt.clear N k : Nat) : Int))
  rw [List.set_append_right _ _ (Nat.le_refl _), Nat.sub_self] at hB2
  have hB2 : Sep F0 w0 (W.setCell ⟨o, 2, none⟩ (.int .u64 ((Bt.clear N k : Nat) : Int))) (Ps ++ [cellsAt o #[.int .i64 kd, .int .i64 nn, .int .u64 ((Bt.clear N k : Nat) : Int)] 71]) := hB2
  clear hB hW ho
  have hp := hput_call hB2 i j hij (getApp HI.out) (getApp HJ.out) p p0 p1 ⟨kd, nn, ((Bt.clear N k : Nat) : Int)⟩ HRG.out.1.1 HRG.out.1.2.1 HRG.out.1.2.2.1 HRG.out.1.2.2.2.1 (by show (0 : Int) ≤ ((Bt.clear N k : Nat) : Int); omega) (by have := HRG.out.2; show ((Bt.clear N k : Nat) : Int) < _; omega)
  dsimp only at hp
  rw [List.set_append_left _ _ hjl] at hp
  obtain ⟨u, hu⟩ : ∃ x, ((Bt.clear N k : Nat) : Int) = x := ⟨_, rfl⟩
  have HU := Lib.hid hu
  rw [hu] at hp hB2 HST ⊢
  clear hu
  go_wp2_with fail
  refine hp.mono ?_
  rintro e w4 ⟨⟨v, rfl⟩, h4⟩
  obtain ⟨S1, hS1⟩ : ∃ x, S.put p ⟨kd, nn, u⟩ = x := ⟨_, rfl⟩
  rw [hS1] at h4
  have hlb : ∀ R : Res, (Ps.set j R ++ [cellsAt o #[.int .i64 kd, .int .i64 nn, .int .u64 u] 71])[Ps.length]? = some (cellsAt o #[.int .i64 kd, .int .i64 nn, .int .u64 u] 71) := fun R => by
    rw [List.getElem?_append_right (by simp), List.length_set, Nat.sub_self]; rfl
  have q0 := (h4.cell _ (hlb _) 0 (v := .int .i64 kd) rfl).1
  have q1 := (h4.cell _ (hlb _) 1 (v := .int .i64 nn) rfl).1
  have q2 := (h4.cell _ (hlb _) 2 (v := .int .u64 u) rfl).1
  have H4 := Lib.hid (Sep.left h4)
  have c4 := ((Sep.left h4).cell i (by rw [List.getElem?_set_ne (Ne.symm hij)]; exact HI.out) 0 (v := .pointer (some ⟨s, 0, none⟩)) rfl).1
  have HS1 := Lib.hid hS1
  clear hp hB2 k0 k1 k2 f2 h4 hlb hS1
  by_cases hk1 : kd = 1
  · subst hk1
    by_cases hu0 : u = 0
    · subst hu0
      have hrel := H4.out.sRelease j (List.getElem?_set_self hjl) p 1 (by omega) (er := (S1.release p 1).1) (S' := (S1.release p 1).2) rfl
      rw [List.set_set] at hrel
      generalize (S1.release p 1).1 = er at *
      have HG := Lib.hid (show (if (1 : Int) = 1 ∧ ((Bt.clear N k : Nat) : Int) = 0 then ((S.put p ⟨1, nn, ((Bt.clear N k : Nat) : Int)⟩).release p 1).2 else S.put p ⟨1, nn, ((Bt.clear N k : Nat) : Int)⟩) = (S1.release p 1).2 from by rw [if_pos ⟨rfl, HU.out⟩, HU.out, HS1.out])
      clear H4
      go_wp2_with fail
      refine hrel.mono ?_
      rintro e w5 ⟨rfl, h5⟩
      have H5 := Lib.hid h5
      clear hrel h5
      go_wp2
      go_end0
      exact ⟨⟨_, rfl⟩, by rw [HT.out, HG.out]; exact H5.out⟩
    · have du : (u == 0) = false := beqF hu0
      have HG := Lib.hid (show (if (1 : Int) = 1 ∧ ((Bt.clear N k : Nat) : Int) = 0 then ((S.put p ⟨1, nn, ((Bt.clear N k : Nat) : Int)⟩).release p 1).2 else S.put p ⟨1, nn, ((Bt.clear N k : Nat) : Int)⟩) = S1 from by rw [if_neg (fun h => hu0 (HU.out.symm.trans h.2)), HU.out, HS1.out])
      go_wp2
      go_end0
      exact ⟨⟨_, rfl⟩, by rw [HT.out, HG.out]; exact H4.out⟩
  · have dk : (kd == 1) = false := beqF hk1
    have HG := Lib.hid (show (if kd = 1 ∧ ((Bt.clear N k : Nat) : Int) = 0 then ((S.put p ⟨kd, nn, ((Bt.clear N k : Nat) : Int)⟩).release p 1).2 else S.put p ⟨kd, nn, ((Bt.clear N k : Nat) : Int)⟩) = S1 from by rw [if_neg (fun h => hk1 h.1), HU.out, HS1.out])
    go_wp2
    go_end0
    exact ⟨⟨_, rfl⟩, by rw [HT.out, HG.out]; exact H4.out⟩
end Go.Proofs.YtfmkiioahnphbaaDoor
