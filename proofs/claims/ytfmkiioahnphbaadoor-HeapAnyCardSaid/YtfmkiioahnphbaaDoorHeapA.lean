/- The plain law of package heap, first part: heads of pages. No program stands here. No condition. | Package heap, walked: none, get. Conditions: the heap's arena is as said. | Package heap, walked: heads, an iterator over the first pages: its contract. Conditions: the heap's arena is as said; a round changes no cells but the caller's own. | Package heap, walked: spot. Conditions: the heap's arena is as said; the table of math/bits holds what its initialiser lays. -/
import Derived.Test.YtfmkiioahnphbaaDoorGround
import Derived.Test.YtfmkiioahnphbaaDoorSlabAll
import Derived.Test.YtfmkiioahnphbaaDoorSlabPages
import Derived.Deep.RegionHeld3
import Derived.Test.YtfmkiioahnphbaaDoorClasses
import Derived.Test.YtfmkiioahnphbaaDoorBitsAll4
set_option linter.unusedVariables false
set_option linter.unusedSimpArgs false
set_option maxRecDepth 100000
namespace Go.Proofs.YtfmkiioahnphbaaDoor

/-- A page's head: its kind, its class or how many pages, its second word. -/
structure Hd where
  kind : Int
  n : Int
  w : Int

namespace Slb
def rd (S : Slb) (a : Int) : Int := (S.read a).1
theorem rd_range {S : Slb} (h : S.Ok) (a : Int) : 0 ≤ S.rd a ∧ S.rd a < 18446744073709551616 := by
  unfold rd read
  split
  · exact h.words _
  · exact ⟨Int.le_refl 0, by show (0 : Int) < _; omega⟩
def hd (S : Slb) (p : Int) : Hd := ⟨S.rd (p * 64) % 256, S.rd (p * 64) / 256, S.rd (p * 64 + 1)⟩
theorem hd_range {S : Slb} (h : S.Ok) (p : Int) : 0 ≤ (S.hd p).kind ∧ (S.hd p).kind < 256 ∧ 0 ≤ (S.hd p).n ∧ (S.hd p).n < 72057594037927936 ∧ 0 ≤ (S.hd p).w ∧ (S.hd p).w < 18446744073709551616 := by
  have h1 := rd_range h (p * 64)
  have h2 := rd_range h (p * 64 + 1)
  unfold hd
  dsimp only
  omega
/-- The first pages, and their heads. -/
def hgo (S : Slb) : List Nat → Int → List (Nat × Hd)
  | [], _ => []
  | p :: L, nx => if (p : Int) < nx then hgo S L nx else (p, S.hd p) :: hgo S L (if (S.hd p).kind = 2 then (p : Int) + (S.hd p).n else nx)
def heads (S : Slb) : List (Nat × Hd) := S.hgo S.pg 0
theorem hgo_mem {S : Slb} : ∀ {L : List Nat} {nx : Int} {x : Nat × Hd}, x ∈ S.hgo L nx → x.1 ∈ L ∧ x.2 = S.hd x.1
  | [], _, _, h => by cases h
  | p :: L, nx, x, h => by
    unfold hgo at h
    split at h
    · exact ⟨List.mem_cons_of_mem _ (hgo_mem h).1, (hgo_mem h).2⟩
    · rcases List.mem_cons.1 h with rfl | h
      · exact ⟨List.mem_cons_self .., rfl⟩
      · exact ⟨List.mem_cons_of_mem _ (hgo_mem h).1, (hgo_mem h).2⟩
theorem heads_mem {S : Slb} {x : Nat × Hd} (h : x ∈ S.heads) : x.1 ∈ S.pg ∧ x.2 = S.hd x.1 := hgo_mem h
end Slb
end Go.Proofs.YtfmkiioahnphbaaDoor

namespace Go.Proofs.YtfmkiioahnphbaaDoor
open Go Go.RowKit

variable {F0 : Nat → Prop} {w0 w : World} {Ps : List Res}

theorem getApp {Ps Qs : List Res} {i : Nat} {R : Res} (h : Ps[i]? = some R) : (Ps ++ Qs)[i]? = some R := by
  rw [List.getElem?_append_left (List.getElem?_eq_some_iff.1 h).1]; exact h

/-- A heap on an arena. -/
abbrev hpAt (h s : Nat) : Res := cellsAt h #[.pointer (some ⟨s, 0, none⟩)] 65

theorem hnone_call (h : Sep F0 w0 w Ps) (i : Nat) {b s : Nat} (hi : Ps[i]? = some (hpAt b s)) :
    Calls Tryd.prog 22 #[.pointer (some ⟨b, 0, none⟩)] w fun e w' => e = .returned (.bool false) ∧ w = w' := by
  have c0 := (h.cell i hi 0 (v := .pointer (some ⟨s, 0, none⟩)) rfl).1
  clear h
  go_enter Tryd.func22, Tryd.ntmps22
  go_wp2
  go_ret
  exact ⟨rfl, rfl⟩

theorem and255 {a : Int} (h0 : 0 ≤ a) (h1 : a < 18446744073709551616) : bits BinOp.and IntKind.u64 a 255 = a % 256 := by
  obtain ⟨n, rfl⟩ := Int.eq_ofNat_of_zero_le h0
  have := u64_and_nat n 255 (by omega) (by omega)
  rw [show ((255 : Nat) : Int) = 255 from rfl] at this
  rw [this]
  have : n &&& 255 = n % 256 := Nat.and_two_pow_sub_one_eq_mod n 8
  rw [this]
  omega

set_option maxRecDepth 100000 in
theorem hget_call (h : Sep F0 w0 w Ps) (i j : Nat) {b s : Nat} {S : Slb} (hi : Ps[i]? = some (hpAt b s)) (hj : Ps[j]? = some (slabR s S)) (p : Int) (p0 : 0 ≤ p) (p1 : p ≤ 33554432) :
    Calls Tryd.prog 49 #[.pointer (some ⟨b, 0, none⟩), .int .i64 p] w fun e w' => e = .returned (.agg #[.int .i64 (S.hd p).kind, .int .i64 (S.hd p).n, .int .u64 (S.hd p).w]) ∧ Mod No w w' := by
  have hS := h.sOk j hj
  have hr1 := Slb.rd_range hS (p * 64)
  have hr2 := Slb.rd_range hS (p * 64 + 1)
  obtain ⟨r1, e1⟩ : ∃ r, S.read (p * 64) = r := ⟨_, rfl⟩
  obtain ⟨r2, e2⟩ : ∃ r, S.read (p * 64 + 1) = r := ⟨_, rfl⟩
  obtain ⟨a, er1⟩ := r1
  obtain ⟨d, er2⟩ := r2
  have ea : S.rd (p * 64) = a := by unfold Slb.rd; rw [e1]
  have ed : S.rd (p * 64 + 1) = d := by unfold Slb.rd; rw [e2]
  unfold Slb.hd
  rw [ea, ed]
  rw [ea] at hr1
  rw [ed] at hr2
  have h1 := h.alloc (.cells #[.int .i64 0, .int .i64 0, .int .u64 0] 71)
  have c0 := (h1.cell i hi 0 (v := .pointer (some ⟨s, 0, none⟩)) rfl).1
  have hc := h1.sRead j hj (p * 64) e1
  have hd := h1.sRead j hj (p * 64 + 1) e2
  have hm : Mod No w (w.alloc (.cells #[.int .i64 (a % 256), .int .i64 (a / 256), .int .u64 d] 71)) := (Mod.refl _ w).alloc _
  have hA := and255 hr1.1 hr1.2
  have e3 : IntKind.i64.wrap (a % 256) = a % 256 := wrap_small _ (by omega) (by omega)
  have e4 : IntKind.i64.wrap (a / 256) = a / 256 := wrap_small _ (by omega) (by omega)
  have HM := Lib.hid hm
  clear h hS ea ed e1 e2 h1 hm
  go_enter Tryd.func49, Tryd.ntmps49
  go_wp2_with fail
  refine hc.mono ?_
  rintro e w' ⟨rfl, rfl⟩
  clear hc
  go_wp2_with fail
  refine hd.mono ?_
  rintro e w' ⟨rfl, rfl⟩
  clear hd
  go_wp2
  exact bodyPost_ret (v := .agg #[.int .i64 (a % 256), .int .i64 (a / 256), .int .u64 d]) (by simp [results, Tryd.f49, go_sem]) rfl ⟨rfl, HM.out⟩

namespace Slb
/-- The arena with a page's head put. -/
def put (S : Slb) (p : Int) (x : Hd) : Slb := ((S.write (p * 64) (x.kind + 256 * x.n)).2.write (p * 64 + 1) x.w).2
end Slb

theorem or256 {a n : Int} (h0 : 0 ≤ a) (h1 : a < 256) (n0 : 0 ≤ n) (n1 : n < 72057594037927936) : bits BinOp.or IntKind.u64 a (n * 256) = a + 256 * n := by
  obtain ⟨k, rfl⟩ := Int.eq_ofNat_of_zero_le h0
  obtain ⟨m, rfl⟩ := Int.eq_ofNat_of_zero_le n0
  have := u64_or_nat k (m * 256) (by omega) (by omega)
  rw [show ((m * 256 : Nat) : Int) = (m : Int) * 256 by omega] at this
  rw [this]
  have e : k ||| m * 256 = m * 256 + k := by
    rw [Nat.or_comm]
    have := Nat.two_pow_add_eq_or_of_lt (i := 8) (b := k) (by omega) m
    rw [show 2 ^ 8 = 256 from rfl] at this
    rw [Nat.mul_comm]
    omega
  rw [e]
  omega

set_option maxRecDepth 100000 in
set_option maxHeartbeats 1000000 in
theorem hput_call (h : Sep F0 w0 w Ps) (i j : Nat) (hij : i ≠ j) {b s : Nat} {S : Slb} (hi : Ps[i]? = some (hpAt b s)) (hj : Ps[j]? = some (slabR s S)) (p : Int) (p0 : 0 ≤ p) (p1 : p ≤ 33554432) (x : Hd)
    (k0 : 0 ≤ x.kind) (k1 : x.kind < 256) (n0 : 0 ≤ x.n) (n1 : x.n < 72057594037927936) (v0 : 0 ≤ x.w) (v1 : x.w < 18446744073709551616) :
    Calls Tryd.prog 38 #[.pointer (some ⟨b, 0, none⟩), .int .i64 p, .agg #[.int .i64 x.kind, .int .i64 x.n, .int .u64 x.w]] w fun e w' => (∃ v, e = .returned v) ∧ Sep F0 w0 w' (Ps.set j (slabR s (S.put p x))) := by
  obtain ⟨kd, n, v⟩ := x
  dsimp only at k0 k1 n0 n1 v0 v1 ⊢
  have hB := h.pushCells #[.int .i64 kd, .int .i64 n, .int .u64 v] 71
  have hjl := (List.getElem?_eq_some_iff.1 hj).1
  have hi' : (Ps ++ [cellsAt w.heap.size #[.int .i64 kd, .int .i64 n, .int .u64 v] 71])[i]? = some (hpAt b s) := getApp hi
  have hj' : (Ps ++ [cellsAt w.heap.size #[.int .i64 kd, .int .i64 n, .int .u64 v] 71])[j]? = some (slabR s S) := getApp hj
  have ho' : (Ps ++ [cellsAt w.heap.size #[.int .i64 kd, .int .i64 n, .int .u64 v] 71])[Ps.length]? = some (cellsAt w.heap.size #[.int .i64 kd, .int .i64 n, .int .u64 v] 71) := by
    rw [List.getElem?_append_right (Nat.le_refl _), Nat.sub_self]; rfl
  obtain ⟨o, ho⟩ : ∃ o, w.heap.size = o := ⟨_, rfl⟩
  rw [ho] at hB hi' hj' ho'
  have c0 := (hB.cell i hi' 0 (v := .pointer (some ⟨s, 0, none⟩)) rfl).1
  have k0' := (hB.cell _ ho' 0 (v := .int .i64 kd) rfl).1
  have k1' := (hB.cell _ ho' 1 (v := .int .i64 n) rfl).1
  have k2' := (hB.cell _ ho' 2 (v := .int .u64 v) rfl).1
  have hc := hB.drew.sWrite j hj' (p * 64) (kd + 256 * n) (by omega) (by omega) (er := (S.write (p * 64) (kd + 256 * n)).1) (S' := (S.write (p * 64) (kd + 256 * n)).2) rfl
  have hset : ∀ R : Res, (Ps ++ [cellsAt o #[.int .i64 kd, .int .i64 n, .int .u64 v] 71]).set j R = Ps.set j R ++ [cellsAt o #[.int .i64 kd, .int .i64 n, .int .u64 v] 71] := fun R => List.set_append_left _ _ hjl
  rw [hset] at hc
  have HP := Lib.hid (show S.put p ⟨kd, n, v⟩ = ((S.write (p * 64) (kd + 256 * n)).2.write (p * 64 + 1) v).2 from rfl)
  generalize (S.write (p * 64) (kd + 256 * n)).1 = er1 at *
  obtain ⟨S1, hS1⟩ : ∃ x, (S.write (p * 64) (kd + 256 * n)).2 = x := ⟨_, rfl⟩
  rw [hS1] at hc HP
  have hA := or256 k0 k1 n0 n1
  have e1 : IntKind.u64.wrap kd = kd := by rw [IntKind.wrap_u64]; omega
  have e2 : IntKind.u64.wrap n = n := by rw [IntKind.wrap_u64]; omega
  have e3 : IntKind.u64.wrap (n * 256) = n * 256 := by rw [IntKind.wrap_u64]; omega
  have e5 : IntKind.i64.wrap (p * 64) = p * 64 := wrap_small _ (by omega) (by omega)
  have e6 : IntKind.i64.wrap (p * 64 + 1) = p * 64 + 1 := wrap_small _ (by omega) (by omega)
  have hi2 : ∀ R : Res, (Ps.set j R ++ [cellsAt o #[.int .i64 kd, .int .i64 n, .int .u64 v] 71])[i]? = some (hpAt b s) := fun R => getApp (by rw [List.getElem?_set_ne (Ne.symm hij)]; exact hi)
  have hj2 : ∀ R : Res, (Ps.set j R ++ [cellsAt o #[.int .i64 kd, .int .i64 n, .int .u64 v] 71])[j]? = some R := fun R => getApp (List.getElem?_set_self hjl)
  have ho2 : ∀ R : Res, (Ps.set j R ++ [cellsAt o #[.int .i64 kd, .int .i64 n, .int .u64 v] 71])[Ps.length]? = some (cellsAt o #[.int .i64 kd, .int .i64 n, .int .u64 v] 71) := fun R => by
    rw [List.getElem?_append_right (by simp), List.length_set, Nat.sub_self]; rfl
  have hset2 : ∀ R R' : Res, (Ps.set j R ++ [cellsAt o #[.int .i64 kd, .int .i64 n, .int .u64 v] 71]).set j R' = Ps.set j R' ++ [cellsAt o #[.int .i64 kd, .int .i64 n, .int .u64 v] 71] := fun R R' => by
    rw [List.set_append_left _ _ (by simp; exact hjl), List.set_set]
  have HI := Lib.hid hi2
  have HJ := Lib.hid hj2
  have HO := Lib.hid ho2
  have HS := Lib.hid hset2
  have HV := Lib.hid (And.intro v0 v1)
  clear h hi hj hi' hj' ho' hset hi2 hj2 ho2 hset2 hB hS1 v0 v1 hjl hij
  go_enter Tryd.func38, Tryd.ntmps38
  go_wp2_with fail
  obtain ⟨W, hW⟩ : ∃ x, w.alloc (.cells #[.int .i64 kd, .int .i64 n, .int .u64 v] 71) = x := ⟨_, rfl⟩
  rw [hW] at c0 k0' k1' k2' hc ⊢
  clear hW ho
  go_region_held3 (fun w' => w'.cell? ⟨b, 0, none⟩ = some (.pointer (some ⟨s, 0, none⟩)) ∧ w'.cell? ⟨o, 0, none⟩ = some (.int .i64 kd) ∧ w'.cell? ⟨o, 1, none⟩ = some (.int .i64 n))
    (first | exact ⟨c0, k0', k1'⟩ | exact hold1)
    (first
      | (go_at_call 7; refine hc.mono ?_; rintro e w1 ⟨rfl, h1⟩; have hold1 := And.intro (h1.cell i (HI.out _) 0 (v := .pointer (some ⟨s, 0, none⟩)) rfl).1 (And.intro (h1.cell _ (HO.out _) 0 (v := .int .i64 kd) rfl).1 (h1.cell _ (HO.out _) 1 (v := .int .i64 n) rfl).1); clear hc))
  have c0 := hold1.1
  have k2' := (h1.cell _ (HO.out _) 2 (v := .int .u64 v) rfl).1
  have hd := h1.drew.sWrite j (HJ.out _) (p * 64 + 1) v HV.out.1 HV.out.2 (er := (S1.write (p * 64 + 1) v).1) (S' := (S1.write (p * 64 + 1) v).2) rfl
  rw [HS.out, ← HP.out] at hd
  clear hold1 h1
  go_wp2_with fail
  go_region_held3 (fun w' => w'.cell? ⟨b, 0, none⟩ = some (.pointer (some ⟨s, 0, none⟩)) ∧ w'.cell? ⟨o, 2, none⟩ = some (.int .u64 v))
    (first | exact ⟨c0, k2'⟩ | exact hold2)
    (first
      | (go_at_call 7; refine hd.mono ?_; rintro e w2 ⟨rfl, h2⟩; have hold2 := And.intro (h2.cell i (HI.out _) 0 (v := .pointer (some ⟨s, 0, none⟩)) rfl).1 (h2.cell _ (HO.out _) 2 (v := .int .u64 v) rfl).1; clear hd))
  have H2 := Lib.hid (Sep.left h2)
  clear hold2 h2
  go_wp2
  go_end0
  exact ⟨⟨_, rfl⟩, H2.out⟩
end Go.Proofs.YtfmkiioahnphbaaDoor

namespace Go.Proofs.YtfmkiioahnphbaaDoor
open Go Go.RowKit Go.Shelf

attribute [local go_sem] Oper.semAt_some

/-- What a round may change: the caller's own cells (from B0 to B2), and new ones. -/
def KpH (B0 B2 : Nat) (A B : World) : Prop := Below B0 A B ∧ ∀ (k : Nat) (o : Obj), B2 ≤ k → A.heap[k]? = some o → o.isCells = true → B.heap[k]? = some o
theorem KpH.refl (B0 B2 : Nat) (A : World) : KpH B0 B2 A A := ⟨Below.refl _ _, fun _ _ _ h _ => h⟩
theorem KpH.trans {B0 B2 : Nat} {A B C : World} (h : KpH B0 B2 A B) (k : KpH B0 B2 B C) : KpH B0 B2 A C := ⟨h.1.trans k.1, fun j o hj ho hc => k.2 j o hj (h.2 j o hj ho hc) hc⟩
theorem KpH.of_mod {B0 B2 : Nat} {A B : World} (h : Mod No A B) (hB : B0 ≤ A.heap.size) : KpH B0 B2 A B :=
  ⟨h.below B0 hB (fun _ _ x => x), fun k o _ ho _ => by rw [h.block k (Array.getElem?_eq_some_iff.1 ho).1 (fun x => x)]; exact ho⟩
theorem KpH.set {B0 B2 : Nat} (A : World) (b : Nat) (v : Value) (h0 : B0 ≤ b) (h2 : b < B2) : KpH B0 B2 A (A.setCell ⟨b, 0, none⟩ v) :=
  ⟨(Below.refl _ _).setCell (p := ⟨b, 0, none⟩) h0 _, fun k o hk ho _ => by rw [at_setCell_ne _ _ (show k ≠ b by omega)]; exact ho⟩
theorem KpH.b {B0 B2 : Nat} {w : World} (hn : B0 ≤ w.heap.size) (W : World) (l : Nat) (o o' : Obj) (hl : w.heap.size ≤ l) (h : W.heap[l]? = some o) (hc : o.isCells = false) (hw : o.isWalk = false) : KpH B0 B2 W (W.putObj l o') :=
  ⟨belowK_b hn W l o o' hl h hc hw, fun k u _ hu huc => by
    have hkl : k ≠ l := fun e => by subst e; rw [h] at hu; cases hu; rw [hc] at huc; cases huc
    rw [World.putObj_heap_other hkl]
    exact hu⟩
theorem Mod.grown0 {A B : World} (h : Mod No A B) : A.grownBy B none := ⟨h.os, h.tape, h.output, h.size, fun k hk _ => h.block k hk (fun x => x)⟩
theorem cells_of_cell {W : World} {g o : Nat} {v : Value} (h : W.cell? ⟨g, o, none⟩ = some v) : ∃ x, W.heap[g]? = some x ∧ x.isCells = true := by
  unfold World.cell? at h
  cases hx : W.heap[g]? with
  | none => simp [hx] at h
  | some x =>
    cases x <;> simp [hx] at h ⊢ <;> first | rfl | (simp [Obj.isCells]; done) | exact h.elim

theorem Sep.fresh {w0 w : World} {Ps : List Res} (h : Sep No w0 w Ps) (i : Nat) {e size n cap g : Nat} {xs : List Value} (hi : Ps[i]? = some (rowAt e size (.slice (some ⟨g, 0, none⟩) n cap) n xs)) : w0.heap.size ≤ g := by
  obtain ⟨F, hP, hF, _⟩ := h.at_ i hi
  rcases hF g (by rw [hP.2]; rfl) with h1 | h1
  · exact h1.elim
  · exact h1

theorem heads_call (b : Nat) (w : World) : Calls Tryd.prog 23 #[.pointer (some ⟨b, 0, none⟩)] w fun e w' => e = .returned (.func (.func 48) #[] #[.pointer (some ⟨w.heap.size, 0, none⟩)]) ∧ w.alloc (.cells #[.pointer (some ⟨b, 0, none⟩)] 35) = w' := by
  go_enter Tryd.func23, Tryd.ntmps23
  go_wp2
  go_ret
  exact ⟨rfl, rfl⟩

/-- A page's head among the first ones. -/
abbrev HdOf (S : Slb) := { x : Nat × Hd // x ∈ S.heads }
abbrev henc {S : Slb} (x : HdOf S) : Array Value := #[.int .i64 ((x.1.1 : Nat) : Int), .agg #[.int .i64 x.1.2.kind, .int .i64 x.1.2.n, .int .u64 x.1.2.w]]

variable {F0 : Nat → Prop} {w0 w : World} {Ps : List Res}


set_option maxRecDepth 100000 in
set_option maxHeartbeats 2000000 in
theorem heads_stops {wB : World} (hS : Sep F0 w0 wB Ps) (i j : Nat) {b s : Nat} {S : Slb} (hi : Ps[i]? = some (hpAt b s)) (hj : Ps[j]? = some (slabR s S)) (B2 : Nat) (_hB2 : wB.heap.size ≤ B2) (w : World) (hBw : Below wB.heap.size wB w)
    (hbx : w.cell? ⟨B2, 0, none⟩ = some (.pointer (some ⟨b, 0, none⟩))) (n : Nat) (hn : 1 ≤ n) :
    SeqStopsK Fence.wide n Tryd.prog 48 #[.pointer (some ⟨B2, 0, none⟩)] (henc (S := S)) (KpH wB.heap.size B2) (fun xs => xs.map (·.1) = S.heads) (fun pre => ∃ k, pre.map (·.1) = S.heads.take k) S.heads.length w := fun l J Jx W hW hJ hJx hY h0 => by
  have hok := hS.sOk j hj
  have hlen : (S.pg.length : Int) ≤ 4096 := by have := hok.fit; have := hok.q1; omega
  have hblt : B2 < w.heap.size := World.block_lt_of_cell? w ⟨B2, 0, none⟩ hbx
  have hbx1 : W.cell? ⟨B2, 0, none⟩ = some (.pointer (some ⟨b, 0, none⟩)) := (hW.cell (p := ⟨B2, 0, none⟩) hblt).trans hbx
  have hBW : Below wB.heap.size wB W := hBw.trans (hW.mono hBw.size)
  have hSW := hS.more (Mod.of_below hBW No)
  have c0 := (hSW.cell i hi 0 (v := .pointer (some ⟨s, 0, none⟩)) rfl).1
  obtain ⟨b', p', hM, _, _⟩ := hSW.sGet j hj
  have hp := spages hM hok.sorted (by omega)
  have HS := Lib.hid hS
  have HJ := Lib.hid hJ
  have HJx := Lib.hid hJx
  have HY := Lib.hid hY
  have HO := Lib.hid hok
  have HW := Lib.hid (And.intro hBW h0)
  clear hS hJ hJx hY hok hBw hW hBW hSW hM h0
  refine callsIn_of_wp Tryd.func48 rfl trivial ?_ rfl
  simp only [Tryd.ntmps48, List.size_toArray, List.length_cons, List.length_nil, Nat.reduceAdd, Nat.reduceSub, Array.replicate_succ, Array.replicate_zero, List.push_toArray, List.append_toArray, List.nil_append, List.cons_append]
  gi_wp2_with fail
  refine ⟨trivial, ?_⟩
  refine (callsIn_wide.2 hp).mono ?_
  rintro e W1 ⟨v, rfl, k1⟩
  obtain ⟨sa, cap, rfl⟩ := k1.form 0 rfl
  have hm := k1.mod
  have hJ1 := HJ.out _ _ _ _ HW.out.2 (Mod.grown0 hm) (fun r e => by cases e)
  have hbx2 := hm.cell hbx1 (fun x => x)
  have hB1 : Below wB.heap.size wB W1 := HW.out.1.trans (hm.below _ HW.out.1.size (fun _ _ x => x))
  have hl1 : (S.pg.map fun k : Nat => (k : Int)).length = S.pg.length := List.length_map _
  have HP : Hid (∀ (wr : World), KpH wB.heap.size B2 W1 wr → ∀ (k q : Nat), S.pg[k]? = some q → ∃ g, sa = some ⟨g, 0, none⟩ ∧ wr.cell? ⟨g, k, none⟩ = some (.int .i64 q)) := by
    intro wr hK k q hq
    obtain ⟨g, rfl, hc, _⟩ := k1.item 0 rfl (o := k) (x := .int .i64 q) (by rw [List.getElem?_map, List.getElem?_map, hq]; rfl)
    refine ⟨g, rfl, ?_⟩
    have hfr : W.heap.size ≤ g := k1.fresh 0 rfl
    have hbw := World.block_lt_of_cell? W ⟨B2, 0, none⟩ hbx1
    obtain ⟨x, hx, hxc⟩ := cells_of_cell hc
    have hx2 := hK.2 g x (by simp at hbw; omega) hx hxc
    exact (World.cell?_of_block (w := W1) (by rw [hx2, hx])).trans hc
  have HB : Hid (∀ (wr : World), KpH wB.heap.size B2 W1 wr → wr.cell? ⟨B2, 0, none⟩ = some (.pointer (some ⟨b, 0, none⟩)) ∧ Sep F0 w0 wr Ps) := by
    intro wr hK
    obtain ⟨x, hx, hxc⟩ := cells_of_cell hbx2
    have hx2 := hK.2 B2 x (Nat.le_refl _) hx hxc
    exact ⟨(World.cell?_of_block (w := W1) (by rw [hx2, hx])).trans hbx2, HS.out.more (Mod.of_below (hB1.trans hK.1) No)⟩
  rw [hl1] at k1 ⊢
  have HJ1 := Lib.hid hJ1
  have hWs : W.heap.size ≤ W1.heap.size := hm.size
  clear hbx1 hbx2 hbx c0 hp k1 hm hJ1 HW hl1
  gi_wp2_with fail
  gi_loopw [3, 13] (fun nx iv wr => ∃ (k : Nat) (pre : List (HdOf S)) (next : Int), k ≤ S.pg.length ∧ iv = .int .i64 k ∧ nx = .int .i64 next ∧ 0 ≤ next ∧ next ≤ 72057594071482368 ∧ J pre wr ∧ pre.map (·.1) ++ S.hgo (S.pg.drop k) next = S.heads ∧ KpH wB.heap.size B2 W1 wr) (fun _ iv _ => S.pg.length - (RowKit.intOf iv).toNat)
  case atStart => exact ⟨0, [], 0, Nat.zero_le _, rfl, rfl, by omega, by omega, HJ1.out, rfl, KpH.refl _ _ _⟩
  case round =>
    obtain ⟨k, pre, next, hk, rfl, rfl, hn0, hn1, hJr, heq, hK⟩ := hrel
    clear HJ1
    by_cases hlt : k < S.pg.length
    · have hq := List.getElem?_eq_getElem hlt
      obtain ⟨g, rfl, hcg⟩ := HP.out wr hK k _ hq
      have hsmall := HO.out.small _ (List.mem_of_getElem? hq)
      have hdrop : S.pg.drop k = S.pg[k] :: S.pg.drop (k + 1) := List.drop_eq_getElem_cons hlt
      rw [hdrop] at heq
      generalize S.pg[k] = q at *
      have HK := Lib.hid hK
      have HJr := Lib.hid hJr
      by_cases hlq : (q : Int) < next
      · have d1 : decide ((q : Int) < next) = true := ltT hlq
        have HE := Lib.hid (show pre.map (·.1) ++ S.hgo (S.pg.drop (k + 1)) next = S.heads from by
          have h := heq
          rw [Slb.hgo, if_pos hlq] at h
          exact h)
        clear heq hdrop hK hJr hq hlq
        gi_wp2
        go_roundw
        case rel => exact ⟨k + 1, pre, next, by omega, by go_num, rfl, hn0, hn1, HJr.out, HE.out, HK.out⟩
        case measure => simp [RowKit.intOf]; omega
      · have d1 : decide ((q : Int) < next) = false := ltF (by omega)
        rw [Slb.hgo, if_neg hlq] at heq
        have hmem : ((q, S.hd q) : Nat × Hd) ∈ S.heads := by
          have h : ((q, S.hd q) : Nat × Hd) ∈ pre.map (·.1) ++ (q, S.hd q) :: S.hgo (S.pg.drop (k + 1)) (if (S.hd q).kind = 2 then (q : Int) + (S.hd q).n else next) := by simp
          rw [heq] at h
          exact h
        have hpl : pre.length < S.heads.length := by
          have := congrArg List.length heq
          simp at this
          omega
        obtain ⟨hbx, hSr⟩ := HB.out wr hK
        have hg := hget_call hSr i j hi hj (q : Int) (by omega) (by omega)
        have hrg := Slb.hd_range HO.out (q : Int)
        have HM := Lib.hid (And.intro hmem hpl)
        have HE := Lib.hid heq
        have hwsz : wB.heap.size ≤ wr.heap.size := (hB1.trans hK.1).size
        obtain ⟨kd, hkd⟩ : ∃ x, (S.hd q).kind = x := ⟨_, rfl⟩
        obtain ⟨nn, hnn⟩ : ∃ x, (S.hd q).n = x := ⟨_, rfl⟩
        obtain ⟨ww, hww⟩ : ∃ x, (S.hd q).w = x := ⟨_, rfl⟩
        have HH := Lib.hid (And.intro hkd (And.intro hnn hww))
        rw [hkd, hnn, hww] at hg hrg
        clear heq hdrop hK hJr hq hlq hmem hpl hSr hkd hnn hww
        gi_wp2_with fail
        refine ⟨trivial, ?_⟩
        refine (callsIn_wide.2 hg).mono ?_
        rintro e w3 ⟨rfl, hm3⟩
        have hJ3 := HJ.out _ _ _ _ (HJ.out _ _ _ _ HJr.out (Mod.grown0 hm3) (fun r e => by cases e)) (World.grownBy_alloc w3 (.cells #[.int .i64 kd, .int .i64 nn, .int .u64 ww] 71) none) (fun r e => by cases e)
        have hK3 := HK.out.trans ((KpH.of_mod (B2 := B2) hm3 hwsz).trans (KpH.of_mod ((Mod.refl No w3).alloc (.cells #[.int .i64 kd, .int .i64 nn, .int .u64 ww] 71)) (Nat.le_trans hwsz hm3.size)))
        obtain ⟨fn, tmps, assign, body, hy, hR⟩ := HY.out pre ⟨(q, S.hd q), HM.out.1⟩ _ hJ3 HM.out.2
        dsimp only [henc] at hy
        rw [HH.out.1, HH.out.2.1, HH.out.2.2] at hy
        have HK3 := Lib.hid hK3
        clear hJ3 hK3 hm3 hg HJr
        by_cases hk2 : kd = 2
        · subst hk2
          have HE2 := Lib.hid (show (pre ++ [(⟨(q, S.hd q), HM.out.1⟩ : HdOf S)]).map (·.1) ++ S.hgo (S.pg.drop (k + 1)) ((q : Int) + nn) = S.heads from by
            have h := HE.out
            rw [if_pos HH.out.1, HH.out.2.1] at h
            rw [List.map_append, List.append_assoc]
            exact h)
          have hnn0 : 0 ≤ (q : Int) + nn := by omega
          have hnn1 : (q : Int) + nn ≤ 72057594071482368 := by omega
          clear HE
          gi_wp2
          refine hR.mono ?_
          rintro e W5 (⟨rfl, hJ5, hK5⟩ | ⟨rfl, hx5⟩)
          · have H5 := Lib.hid (And.intro hJ5 (HK3.out.trans hK5))
            clear hJ5 hK5
            gi_wp2
            go_roundw
            case rel => exact ⟨k + 1, pre ++ [⟨(q, S.hd q), HM.out.1⟩], _, by omega, by go_num, rfl, by omega, by omega, H5.out.1, HE2.out, H5.out.2⟩
            case measure => simp [RowKit.intOf]; omega
          · have H5 := Lib.hid hx5
            clear hx5
            gi_wp2
            refine bodyPost_ret (results_none rfl _ _ _) rfl ?_
            refine ⟨⟨_, rfl⟩, .inr ⟨_, ⟨pre.length + 1, ?_⟩, H5.out⟩⟩
            have h := congrArg (List.take (pre.length + 1)) HE2.out
            rw [← h, List.take_append_of_le_length (by simp), List.take_of_length_le (by simp)]
        · have d2 : (kd == 2) = false := beqF hk2
          have HE2 := Lib.hid (show (pre ++ [(⟨(q, S.hd q), HM.out.1⟩ : HdOf S)]).map (·.1) ++ S.hgo (S.pg.drop (k + 1)) next = S.heads from by
            have h := HE.out
            rw [if_neg (fun e => hk2 (HH.out.1.symm.trans e))] at h
            rw [List.map_append, List.append_assoc]
            exact h)
          clear HE hk2
          gi_wp2
          refine hR.mono ?_
          rintro e W5 (⟨rfl, hJ5, hK5⟩ | ⟨rfl, hx5⟩)
          · have H5 := Lib.hid (And.intro hJ5 (HK3.out.trans hK5))
            clear hJ5 hK5
            gi_wp2
            go_roundw
            case rel => exact ⟨k + 1, pre ++ [⟨(q, S.hd q), HM.out.1⟩], _, by omega, by go_num, rfl, by omega, by omega, H5.out.1, HE2.out, H5.out.2⟩
            case measure => simp [RowKit.intOf]; omega
          · have H5 := Lib.hid hx5
            clear hx5
            gi_wp2
            refine bodyPost_ret (results_none rfl _ _ _) rfl ?_
            refine ⟨⟨_, rfl⟩, .inr ⟨_, ⟨pre.length + 1, ?_⟩, H5.out⟩⟩
            have h := congrArg (List.take (pre.length + 1)) HE2.out
            rw [← h, List.take_append_of_le_length (by simp), List.take_of_length_le (by simp)]
    · obtain rfl : k = S.pg.length := by omega
      have heq2 : pre.map (·.1) = S.heads := by
        have h := heq
        rw [List.drop_length, Slb.hgo, List.append_nil] at h
        exact h
      have HQ := Lib.hid (And.intro heq2 hJr)
      clear heq heq2 hJr hK hlt
      gi_wp2
      go_end0
      exact ⟨⟨_, rfl⟩, .inl ⟨_, HQ.out.1, HQ.out.2⟩⟩
end Go.Proofs.YtfmkiioahnphbaaDoor

namespace Go.Proofs.YtfmkiioahnphbaaDoor
open Go Go.RowKit Go.Shelf

attribute [local go_sem] Oper.semAt_some

variable {F0 : Nat → Prop} {w0 w : World} {Ps : List Res}

def spotF (c : Int) (x : Nat × Hd) : Option (Nat × Int) :=
  if x.2.kind = 1 ∧ x.2.n = c ∧ 0 ≤ Bt.free x.2.w.toNat (cslots c).1 then some (x.1, Bt.free x.2.w.toNat (cslots c).1) else none
def Slb.spot (S : Slb) (c : Int) : Option (Nat × Int) := S.heads.findSome? (spotF c)
/-- What is answered: page, slot, is. -/
def spotA (r : Option (Nat × Int)) : Value := match r with
  | some (p, k) => .tuple #[.int .i64 (p : Nat), .int .i64 k, .bool true]
  | none => .tuple #[.int .i64 0, .int .i64 0, .bool false]

theorem Cel.mod {l : List (Nat × Value)} {W W' : World} (h : Cel l W) (hm : Mod No W W') : Cel l W' :=
  fun p hp => ⟨cell_kept (h p hp).1 (Mod.grown0 hm) (fun r e => by cases e), (frozen_kept (h p hp).1 (Mod.grown0 hm) (fun r e => by cases e)).trans (h p hp).2⟩
theorem KeepsOthers.of_mod {W W' : World} (hm : Mod No W W') : KeepsOthers W W' := KeepsOthers.of_grownBy (Mod.grown0 hm) (fun j o e => by cases e)
theorem findSome_split {α β : Type} {f : α → Option β} {l : List α} {pre : List α} {x : α} {r : β} {k : Nat} (h : pre ++ [x] = l.take k) (hp : ∀ y ∈ pre, f y = none) (hx : f x = some r) : l.findSome? f = some r := by
  have e : l = pre ++ [x] ++ l.drop k := by rw [h, List.take_append_drop]
  rw [e, List.append_assoc, List.findSome?_append, List.findSome?_append]
  have h1 : pre.findSome? f = none := List.findSome?_eq_none_iff.2 hp
  rw [h1]
  simp [hx]

theorem skip_snoc {S : Slb} {β : Type} {f : Nat × Hd → Option β} {pre : List (HdOf S)} {x : HdOf S} (h : ∀ y ∈ pre, f y.1 = none) (hx : f x.1 = none) : ∀ y ∈ pre ++ [x], f y.1 = none := fun y hy => by
  rcases List.mem_append.1 hy with hy | hy
  · exact h y hy
  · rw [List.mem_singleton.1 hy]; exact hx

/-- A loop variable's head, in a block of its own. -/
def HBox (Bx : Nat) (h : Hd) (W : World) : Prop := W.cell? ⟨Bx, 0, none⟩ = some (.int .i64 h.kind) ∧ W.cell? ⟨Bx, 1, none⟩ = some (.int .i64 h.n) ∧ W.cell? ⟨Bx, 2, none⟩ = some (.int .u64 h.w)
theorem HBox.new (W : World) (h : Hd) (T : TypeId) : HBox W.heap.size h (W.alloc (.cells #[.int .i64 h.kind, .int .i64 h.n, .int .u64 h.w] T)) :=
  ⟨by rw [cell_at (heap_alloc_new W _)]; rfl, by rw [cell_at (heap_alloc_new W _)]; rfl, by rw [cell_at (heap_alloc_new W _)]; rfl⟩
theorem HBox.kept {Bx : Nat} {h : Hd} {A B : World} {row : Option Nat} (hb : HBox Bx h A) (hg : A.grownBy B row) (hr : ∀ r, row = some r → ∃ o : Obj, A.heap[r]? = some o ∧ o.isCells = false) : HBox Bx h B :=
  ⟨cell_kept hb.1 hg hr, cell_kept hb.2.1 hg hr, cell_kept hb.2.2 hg hr⟩

set_option maxRecDepth 100000 in
set_option maxHeartbeats 4000000 in
theorem spot_in (hS : Sep F0 w0 w Ps) (i j : Nat) {b s : Nat} {S : Slb} (hi : Ps[i]? = some (hpAt b s)) (hj : Ps[j]? = some (slabR s S)) (hT : Tab64 w) (c : Int) :
    Calls Tryd.prog 39 #[.pointer (some ⟨b, 0, none⟩), .int .i64 c] w fun e w' => e = .returned (spotA (S.spot c)) ∧ Below w.heap.size w w' := by
  have hok := hS.sOk j hj
  refine (callsIn_wide (n := 4)).1 ?_
  refine callsIn_of_wp_marks Tryd.func39 rfl trivial ?_ rfl
  simp only [Tryd.ntmps39, List.size_toArray, List.length_cons, List.length_nil, Nat.reduceAdd, Nat.reduceSub, Array.replicate_succ, Array.replicate_zero, List.push_toArray, List.append_toArray, List.nil_append, List.cons_append]
  gi_wp2_with fail
  refine ⟨trivial, ?_⟩
  refine (callsIn_wide.2 (slots_call c _)).mono ?_
  rintro e w1 ⟨rfl, hm1⟩
  gi_wp2_with fail
  refine ⟨trivial, ?_⟩
  refine (callsIn_wide.2 (heads_call b _)).mono ?_
  rintro e w2 ⟨rfl, rfl⟩
  gi_wp2_with fail
  obtain ⟨Bn, hBn⟩ : ∃ x, w1.heap.size = x := ⟨_, rfl⟩
  have hsz1 : w.heap.size + 4 ≤ Bn := by
    have := hm1.size
    simp at this
    omega
  obtain ⟨W0, hW0⟩ : ∃ x, (w1.alloc (.cells #[.int .i64 (cslots c).1] 3)).alloc (.cells #[.pointer (some ⟨b, 0, none⟩)] 35) = x := ⟨_, rfl⟩
  have hsz : W0.heap.size = Bn + 2 := by rw [← hW0]; simp; omega
  have hb1 : Below w.heap.size w w1 := (((((Below.refl _ w).alloc (Nat.le_refl _) _).alloc (by simp) _).alloc (by simp; omega) _).alloc (by simp; omega) _).trans (hm1.below _ (by simp; omega) (fun _ _ x => x))
  have hb0 : Below w.heap.size w W0 := by rw [← hW0]; exact (hb1.alloc (by omega) _).alloc (by simp; omega) _
  have hc0 : Cel [(w.heap.size, .int .i64 c), (w.heap.size + 1, .int .i64 0), (w.heap.size + 1 + 1, .int .i64 0), (w.heap.size + 1 + 1 + 1, .bool false), (Bn, .int .i64 (cslots c).1)] W0 := by
    rw [← hW0]
    have h4 := ((((Cel.nil w).new (.int .i64 c) 3 rfl).new (.int .i64 0) 3 (by simp; rfl)).new (.int .i64 0) 3 (by simp; rfl)).new (.bool false) 4 (by simp; rfl)
    exact ((h4.mod hm1).new _ _ hBn).alloc _
  have hbx : W0.cell? ⟨Bn + 1, 0, none⟩ = some (.pointer (some ⟨b, 0, none⟩)) := by
    rw [← hW0]
    have := cell_at (heap_alloc_new (w1.alloc (.cells #[.int .i64 (cslots c).1] 3)) (.cells #[.pointer (some ⟨b, 0, none⟩)] 35)) 0
    rw [World.size_alloc, hBn] at this
    rw [this]; rfl
  rw [hW0, hBn]
  have hpw : [w.heap.size, w.heap.size + 1, w.heap.size + 1 + 1, w.heap.size + 1 + 1 + 1, Bn].Pairwise (· ≠ ·) := by simp; omega
  clear hW0 hm1 hb1 hBn
  obtain ⟨N1, hN1⟩ : ∃ x, (cslots c).1 = x := ⟨_, rfl⟩
  obtain ⟨N2, hN2⟩ : ∃ x, (cslots c).2 = x := ⟨_, rfl⟩
  have HN := Lib.hid hN1
  rw [hN1] at hc0 ⊢
  rw [hN2]
  clear hN1 hN2
  have HT := Lib.hid hT
  have HO := Lib.hid hok
  refine wpIn_rangeFunc_ownH rfl (by omega) (gf := 48) (lb := #[.pointer (some ⟨Bn + 1, 0, none⟩)]) rfl trivial (enters_of Tryd.func48 (by kernel_rfl) rfl) (heads_stops hS i j hi hj (Bn + 1) (by omega) W0 hb0 hbx 3 (by omega)) KpH.trans (KpH.b (by omega)) (Below.refl _ _) (fun _ => rfl)
    (fun pre W => ((∀ x ∈ pre, spotF c x.1 = none) ∧ Cel [(w.heap.size, .int .i64 c), (w.heap.size + 1, .int .i64 0), (w.heap.size + 1 + 1, .int .i64 0), (w.heap.size + 1 + 1 + 1, .bool false), (Bn, .int .i64 N1)] W) ∧ Below w.heap.size w W)
    (fun q pre W => (∃ pre' x r, (q = .ret ∧ pre = pre' ++ [x] ∧ (∀ y ∈ pre', spotF c y.1 = none) ∧ spotF c x.1 = some r) ∧ Cel [(w.heap.size, .int .i64 c), (w.heap.size + 1, .int .i64 (r.1 : Nat)), (w.heap.size + 1 + 1, .int .i64 r.2), (w.heap.size + 1 + 1 + 1, .bool true), (Bn, .int .i64 N1)] W) ∧ Below w.heap.size w W)
    (OwnFrom.and (Own.from (Own.and' (pure_own _) (cel_own _)) _) (ownFrom_below (Nat.le_refl _) (by omega)))
    (fun q => OwnFrom.and (Own.from (fun s A B row hs hg hr => by obtain ⟨p', x, r, hx, hC⟩ := hs; exact ⟨p', x, r, hx, cel_own (β := Unit) _ () _ _ _ hC hg hr⟩) _) (ownFrom_below (Nat.le_refl _) (by omega)))
    ⟨⟨by simp, hc0⟩, hb0⟩
    (fun x a' W => ∃ Bx, HBox Bx x.1.2 W ∧ a' = { tmps := #[.pointer (some ⟨b, 0, none⟩), .int .i64 c, undef, .pointer (some ⟨w.heap.size, 0, none⟩), .pointer (some ⟨w.heap.size + 1, 0, none⟩), .pointer (some ⟨w.heap.size + 1 + 1, 0, none⟩), .pointer (some ⟨w.heap.size + 1 + 1 + 1, 0, none⟩), .pointer (some ⟨Bn, 0, none⟩), .int .i64 N2, .int .i64 ((x.1.1 : Nat) : Int), .pointer (some ⟨Bx, 0, none⟩), undef, .tuple #[.int .i64 N1, .int .i64 N2], .int .i64 c, .tuple #[.int .i64 N1, .int .i64 N2], .int .i64 N1, .int .i64 N2, .pointer (some ⟨b, 0, none⟩), .func (.func 48) #[] #[.pointer (some ⟨Bn + 1, 0, none⟩)], .int .i64 ((x.1.1 : Nat) : Int), .agg #[.int .i64 x.1.2.kind, .int .i64 x.1.2.n, .int .u64 x.1.2.w], undef, undef, undef, undef, undef, undef, undef, undef, undef, undef, undef, undef, undef, undef, undef, undef, undef], defers := [] })
    (fun x a' _ A B row hs hg hr => by obtain ⟨Bx, h2, h3⟩ := hs; exact ⟨Bx, h2.kept hg (fun r e => (hr r e).2), h3⟩) ?assign ?body ?done ?stop
  case assign =>
    rintro l pre x W K ⟨⟨hne, hC⟩, hB⟩ hK
    have hK1 := hK _ (W.alloc (.cells #[.int .i64 x.1.2.kind, .int .i64 x.1.2.n, .int .u64 x.1.2.w] 71)) ((KeepsOthers.alloc _ _).from _) (KpH.of_mod ((Mod.refl No W).alloc _) hB.size) ⟨⟨hne, hC.alloc _⟩, hB.alloc hB.size _⟩ ⟨W.heap.size, HBox.new W _ _, rfl⟩
    clear hK
    gi_wp2
    exact hK1
  case body =>
    rintro l pre x a' W hl ⟨rr, hrr⟩ ⟨⟨hne, hC⟩, hB⟩ ⟨Bx, hb, rfl⟩ hlen
    obtain ⟨⟨p, kd, nn, ww⟩, hx⟩ := x
    have hmem := Slb.heads_mem hx
    have hrg := Slb.hd_range HO.out (p : Int)
    rw [← hmem.2] at hrg
    have hps := HO.out.small _ hmem.1
    dsimp only at hb hrg hps ⊢
    obtain ⟨N, rfl⟩ := Int.eq_ofNat_of_zero_le hrg.2.2.2.2.1
    obtain ⟨b0, b1, b2⟩ := hb
    dsimp only at b0 b1 b2
    have hf := free_call N (by omega) N1 W (HT.out.mod (Mod.of_below hB No))
    have HF : Hid (spotF c (p, ⟨kd, nn, (N : Int)⟩) = if kd = 1 ∧ nn = c ∧ 0 ≤ Bt.free N N1 then some (p, Bt.free N N1) else none) := by
      show _ = _
      unfold spotF
      rw [HN.out]
      rfl
    have hc0' := (hC.get 0 rfl).1
    have hc4' := (hC.get 4 rfl).1
    have HC := Lib.hid (And.intro hC hB)
    have HNE := Lib.hid hne
    clear hne hC hB hmem hlen hrr
    by_cases h1 : kd = 1
    · subst h1
      by_cases h2 : nn = c
      · subst h2
        have d2 : (nn != nn) = false := bneF rfl
        gi_wp2_with fail
        refine ⟨trivial, ?_⟩
        refine (CallsIn.inRound l (callsIn_wide.2 hf)).mono ?_
        rintro e w3 ⟨rfl, hm3⟩
        have hC3 := HC.out.1.mod hm3
        have hB3 : Below w.heap.size W w3 := hm3.below _ HC.out.2.size (fun _ _ x => x)
        have hK3 := KpH.of_mod (B0 := w.heap.size) (B2 := Bn + 1) hm3 HC.out.2.size
        have hO3 := KeepsOthers.of_mod hm3
        clear hf hc0' hc4' b0 b1 b2
        by_cases h3 : 0 ≤ Bt.free N N1
        · have d3 : decide (0 ≤ Bt.free N N1) = true := leT h3
          have HR := Lib.hid (show spotF nn (p, ⟨1, nn, (N : Int)⟩) = some (p, Bt.free N N1) from by rw [HF.out]; simp [h3])
          generalize Bt.free N N1 = f at *
          have h11 := hC3.get 1 rfl
          have h12 := hC3.get 2 rfl
          have h13 := hC3.get 3 rfl
          have k11 := h11.1
          have k12 := h12.1
          have k13 := h13.1
          have f11 := h11.2
          have f12 := h12.2
          have f13 := h13.2
          have hset := ((hC3.set 1 rfl (Cel.ne hpw rfl) (.int .i64 (p : Nat))).set 2 rfl (Cel.ne hpw rfl) (.int .i64 f)).set 3 rfl (Cel.ne hpw rfl) (.bool true)
          have HS := Lib.hid hset
          have HB := Lib.hid (((((HC.out.2.trans hB3).setCell (p := ⟨w.heap.size + 1, 0, none⟩) (by simp) (.int .i64 (p : Nat))).setCell (p := ⟨w.heap.size + 1 + 1, 0, none⟩) (by simp; omega) (.int .i64 f)).setCell (p := ⟨w.heap.size + 1 + 1 + 1, 0, none⟩) (by simp; omega) (.bool true)))
          have HO3 := Lib.hid (((hO3.trans (KeepsOthers.setCell w3 ⟨w.heap.size + 1, 0, none⟩ (.int .i64 (p : Nat)))).trans (KeepsOthers.setCell _ ⟨w.heap.size + 1 + 1, 0, none⟩ (.int .i64 f))).trans (KeepsOthers.setCell _ ⟨w.heap.size + 1 + 1 + 1, 0, none⟩ (.bool true)))
          clear hset h11 h12 h13 hC3 hB3 hK3 hO3 h3 hm3
          gi_wp2
          exact ⟨HO3.out.from _, ⟨_, _, (p, f), ⟨rfl, rfl, HNE.out, HR.out⟩, HS.out⟩, HB.out⟩
        · have d3 : decide (0 ≤ Bt.free N N1) = false := leF (by omega)
          have HR := Lib.hid (show spotF nn (p, ⟨1, nn, (N : Int)⟩) = none from by rw [HF.out, if_neg (fun h => h3 h.2.2)])
          have HZ := Lib.hid (And.intro hO3 (And.intro hK3 (And.intro hC3 (HC.out.2.trans hB3))))
          generalize Bt.free N N1 = f at *
          clear hC3 hB3 hK3 hO3 h3 hm3
          gi_wp2
          exact ⟨HZ.out.1.from _, HZ.out.2.1, ⟨skip_snoc HNE.out HR.out, HZ.out.2.2.1⟩, HZ.out.2.2.2⟩
      · have d2 : (nn != c) = true := bneT h2
        have HR := Lib.hid (show spotF c (p, ⟨1, nn, (N : Int)⟩) = none from by rw [HF.out, if_neg (fun h => h2 h.2.1)])
        clear hf h2
        gi_wp2
        have HQ := skip_snoc (x := ⟨_, hx⟩) HNE.out HR.out
        first
          | exact ⟨(KeepsOthers.refl _).from _, KpH.refl _ _ _, ⟨HQ, HC.out.1⟩, HC.out.2⟩
          | exact ⟨(KeepsOthers.refl _).from _, KpH.refl _ _ _, ⟨fun a b h1 h2 => HQ ⟨(a, b), h1⟩ h2, HC.out.1⟩, HC.out.2⟩
    · have d1 : (kd != 1) = true := bneT h1
      have HR := Lib.hid (show spotF c (p, ⟨kd, nn, (N : Int)⟩) = none from by rw [HF.out, if_neg (fun h => h1 h.1)])
      clear hf h1
      gi_wp2
      have HQ := skip_snoc (x := ⟨_, hx⟩) HNE.out HR.out
      first
        | exact ⟨(KeepsOthers.refl _).from _, KpH.refl _ _ _, ⟨HQ, HC.out.1⟩, HC.out.2⟩
        | exact ⟨(KeepsOthers.refl _).from _, KpH.refl _ _ _, ⟨fun a b h1 h2 => HQ ⟨(a, b), h1⟩ h2, HC.out.1⟩, HC.out.2⟩
  case done =>
    rintro D xs W hD hxs ⟨⟨hne, hC⟩, hB⟩ hK
    have hsp : S.spot c = none := by
      unfold Slb.spot
      rw [← hxs]
      refine List.findSome?_eq_none_iff.2 fun y hy => ?_
      obtain ⟨z, hz, rfl⟩ := List.mem_map.1 hy
      exact hne z hz
    have h11 := hC.get 1 rfl
    have h12 := hC.get 2 rfl
    have h13 := hC.get 3 rfl
    have k11 := h11.1
    have k12 := h12.1
    have k13 := h13.1
    have f11 := h11.2
    have f12 := h12.2
    have f13 := h13.2
    have hset := ((hC.set 1 rfl (Cel.ne hpw rfl) (.int .i64 0)).set 2 rfl (Cel.ne hpw rfl) (.int .i64 0)).set 3 rfl (Cel.ne hpw rfl) (.bool false)
    have hB' := ((hB.setCell (p := ⟨w.heap.size + 1, 0, none⟩) (by simp) (.int .i64 0)).setCell (p := ⟨w.heap.size + 1 + 1, 0, none⟩) (by simp; omega) (.int .i64 0)).setCell (p := ⟨w.heap.size + 1 + 1 + 1, 0, none⟩) (by simp; omega) (.bool false)
    have hK' := (((KeepsOthers.setCell W ⟨w.heap.size + 1, 0, none⟩ (.int .i64 0)).trans (KeepsOthers.setCell _ ⟨w.heap.size + 1 + 1, 0, none⟩ (.int .i64 0))).trans (KeepsOthers.setCell _ ⟨w.heap.size + 1 + 1 + 1, 0, none⟩ (.bool false))).same D _ hK rfl
    have hC' := hset.put hK' rfl (.deferred none)
    have hB2 := hB'.trans (belowK_b (w := w) (Nat.le_refl _) _ D _ (.deferred none) (by omega) hK' rfl rfl)
    have q1 := (hC'.get 1 rfl).1
    have q2 := (hC'.get 2 rfl).1
    have q3 := (hC'.get 3 rfl).1
    have HH := Lib.hid (And.intro hK' (And.intro hB2 hsp))
    clear h11 h12 h13 hset hC' hB' hC hK' hB2 hsp hxs
    gi_wp2
    refine ⟨by simp, .inl ⟨_, _, rfl, run_takeDeferred HH.out.1, ?_⟩⟩
    refine ⟨.tuple #[.int .i64 0, .int .i64 0, .bool false], ?_, by rw [HH.out.2.2]; rfl, HH.out.2.1⟩
    simp [results, Tryd.f39, go_sem, q1, q2, q3]
  case stop =>
    rintro D q pre W hD ⟨k, hk⟩ ⟨⟨pre', x, r, ⟨rfl, rfl, hne, hr⟩, hC⟩, hB⟩ hK
    have hsp : S.spot c = some r := by
      unfold Slb.spot
      rw [List.map_append] at hk
      exact findSome_split hk (fun y hy => by obtain ⟨z, hz, rfl⟩ := List.mem_map.1 hy; exact hne z hz) hr
    have hC' := hC.put hK rfl (.deferred none)
    have hB2 := hB.trans (belowK_b (w := w) (Nat.le_refl _) W D _ (.deferred none) (by omega) hK rfl rfl)
    have q1 := (hC'.get 1 rfl).1
    have q2 := (hC'.get 2 rfl).1
    have q3 := (hC'.get 3 rfl).1
    have HH := Lib.hid hsp
    clear hsp hC' hC hk hne hr
    gi_wp2
    refine ⟨by simp, .inl ⟨_, _, rfl, run_takeDeferred hK, ?_⟩⟩
    refine ⟨.tuple #[.int .i64 (r.1 : Nat), .int .i64 r.2, .bool true], ?_, by rw [HH.out]; rfl, hB2⟩
    simp [results, Tryd.f39, go_sem, q1, q2, q3]

theorem Sep.hSpot (h : Sep F0 w0 w Ps) (i j : Nat) {b s : Nat} {S : Slb} (hi : Ps[i]? = some (hpAt b s)) (hj : Ps[j]? = some (slabR s S)) (hT : Tab64 w) (c : Int) :
    Calls Tryd.prog 39 #[.pointer (some ⟨b, 0, none⟩), .int .i64 c] w fun e w' => e = .returned (spotA (S.spot c)) ∧ Mod No w w' :=
  (spot_in h i j hi hj hT c).mono fun _ _ h => ⟨h.1, Mod.of_below h.2 _⟩
end Go.Proofs.YtfmkiioahnphbaaDoor
